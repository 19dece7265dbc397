/-
  No cell of these rows narrows 'for every input' (looked for: loops, veiled, ifaces, maps, wideKeys, modest, calm, conditions, laid).
  DERIVED. THE GIVEN ROWS OF THIS SEAT. 16 by the template 'for every input the law returns true; each argument reads behind the call as it read before'; 0 by the template 'total and deterministic' (their statements: YtdffcgfllpeppaaTotals.lean).
  GIVEN WITH THE SEED: the statements are not yours to turn. If you find one false, say at which input.
  Laid BY PROGRAM, IN A SANDBOX (cutbox-rows.mjs): the forced cells as the released guide's own fill.sh prints them over the translation 7e20201fcae231d0… (all of the seat's roots in one cut). By AI agents, Wed Nov 11 2026. No macro, syntax, notation, axiom, sorry.
-/
import Derived.Test.YtdffcgfllpeppaaChecked
import GoSem.Claim
import GoSem.ClaimJoined
import GoSem.ClaimMapViews
import Derived.JoinedTies
import Derived.KernelRfl
namespace Go.Proofs.Ytdffcgfllpeppaa
/- THE CELL 'sum', in the pinned program and in every row, IS THE sha256 OF THE DUMP (.gsa) THAT YtdffcgfllpeppaaProg.lean LOADS. Nothing in Lean hashes anything: it is a label: what it is worth is what the hold of that sum in a sandbox is worth. -/
noncomputable def Try.pinned : Pinned := { name := "ytdffcgfllpeppaa", sum := "7e20201fcae231d0c7487f2bcd01fada60a1475750030125d9b6629e46b5d024", checked := Try.checked }
namespace Rows
def none {H : Type} : Left H := { results := [], args := [] }

/-- 'laws.FnExactNegateDigits': WHATEVER THE INPUT: true; the input reads as it did. -/
def fnExactNegateDigitsSpec : ChangeSpec := { name := "fnExactNegateDigits", fn := fun _ => fun
  | [d] => { results := [.lit (.bool true)], args := [d] }
  | _ => none }
def fnExactNegateDigitsRow : OpenClaim := { program := "ytdffcgfllpeppaa", sum := "7e20201fcae231d0c7487f2bcd01fada60a1475750030125d9b6629e46b5d024", func := "loop.example/g03203/laws.FnExactNegateDigits", spec := "fnExactNegateDigits", apart := false }
def FnExactNegateDigitsSaid : Prop := fnExactNegateDigitsRow.holds Try.pinned (OpenSpec.ofChange fnExactNegateDigitsSpec)

/-- ITS FALSE NEIGHBOUR: 'it returns false'. Refute it at one input. -/
def fnExactNegateDigitsWrong : ChangeSpec := { name := "fnExactNegateDigits", fn := fun _ => fun
  | [d] => { results := [.lit (.bool false)], args := [d] }
  | _ => none }
def FnExactNegateDigitsWrongFalsely : Prop := fnExactNegateDigitsRow.holds Try.pinned (OpenSpec.ofChange fnExactNegateDigitsWrong)

/-- 'laws.FnExactSignedOk': WHATEVER THE INPUT: true; the input reads as it did. -/
def fnExactSignedOkSpec : ChangeSpec := { name := "fnExactSignedOk", fn := fun _ => fun
  | [d] => { results := [.lit (.bool true)], args := [d] }
  | _ => none }
def fnExactSignedOkRow : OpenClaim := { program := "ytdffcgfllpeppaa", sum := "7e20201fcae231d0c7487f2bcd01fada60a1475750030125d9b6629e46b5d024", func := "loop.example/g03203/laws.FnExactSignedOk", spec := "fnExactSignedOk", unfollowed := true, recurses := true, apart := false }
def FnExactSignedOkSaid : Prop := fnExactSignedOkRow.holds Try.pinned (OpenSpec.ofChange fnExactSignedOkSpec)

/-- ITS FALSE NEIGHBOUR: 'it returns false'. Refute it at one input. -/
def fnExactSignedOkWrong : ChangeSpec := { name := "fnExactSignedOk", fn := fun _ => fun
  | [d] => { results := [.lit (.bool false)], args := [d] }
  | _ => none }
def FnExactSignedOkWrongFalsely : Prop := fnExactSignedOkRow.holds Try.pinned (OpenSpec.ofChange fnExactSignedOkWrong)

/-- 'laws.FnExactDigitSum': WHATEVER THE INPUT: true; the input reads as it did. -/
def fnExactDigitSumSpec : ChangeSpec := { name := "fnExactDigitSum", fn := fun _ => fun
  | [d1, d2] => { results := [.lit (.bool true)], args := [d1, d2] }
  | _ => none }
def fnExactDigitSumRow : OpenClaim := { program := "ytdffcgfllpeppaa", sum := "7e20201fcae231d0c7487f2bcd01fada60a1475750030125d9b6629e46b5d024", func := "loop.example/g03203/laws.FnExactDigitSum", spec := "fnExactDigitSum", apart := false }
def FnExactDigitSumSaid : Prop := fnExactDigitSumRow.holds Try.pinned (OpenSpec.ofChange fnExactDigitSumSpec)

/-- ITS FALSE NEIGHBOUR: 'it returns false'. Refute it at one input. -/
def fnExactDigitSumWrong : ChangeSpec := { name := "fnExactDigitSum", fn := fun _ => fun
  | [d1, d2] => { results := [.lit (.bool false)], args := [d1, d2] }
  | _ => none }
def FnExactDigitSumWrongFalsely : Prop := fnExactDigitSumRow.holds Try.pinned (OpenSpec.ofChange fnExactDigitSumWrong)

/-- 'laws.FnExactBalancedOk': WHATEVER THE INPUT: true; the input reads as it did. -/
def fnExactBalancedOkSpec : ChangeSpec := { name := "fnExactBalancedOk", fn := fun _ => fun
  | [d1, d2] => { results := [.lit (.bool true)], args := [d1, d2] }
  | _ => none }
def fnExactBalancedOkRow : OpenClaim := { program := "ytdffcgfllpeppaa", sum := "7e20201fcae231d0c7487f2bcd01fada60a1475750030125d9b6629e46b5d024", func := "loop.example/g03203/laws.FnExactBalancedOk", spec := "fnExactBalancedOk", unfollowed := true, recurses := true, apart := false }
def FnExactBalancedOkSaid : Prop := fnExactBalancedOkRow.holds Try.pinned (OpenSpec.ofChange fnExactBalancedOkSpec)

/-- ITS FALSE NEIGHBOUR: 'it returns false'. Refute it at one input. -/
def fnExactBalancedOkWrong : ChangeSpec := { name := "fnExactBalancedOk", fn := fun _ => fun
  | [d1, d2] => { results := [.lit (.bool false)], args := [d1, d2] }
  | _ => none }
def FnExactBalancedOkWrongFalsely : Prop := fnExactBalancedOkRow.holds Try.pinned (OpenSpec.ofChange fnExactBalancedOkWrong)

/-- 'laws.FnExactDigitsOk': WHATEVER THE INPUT: true; the input reads as it did. -/
def fnExactDigitsOkSpec : ChangeSpec := { name := "fnExactDigitsOk", fn := fun _ => fun
  | [d1, d2] => { results := [.lit (.bool true)], args := [d1, d2] }
  | _ => none }
def fnExactDigitsOkRow : OpenClaim := { program := "ytdffcgfllpeppaa", sum := "7e20201fcae231d0c7487f2bcd01fada60a1475750030125d9b6629e46b5d024", func := "loop.example/g03203/laws.FnExactDigitsOk", spec := "fnExactDigitsOk", unfollowed := true, recurses := true, apart := false }
def FnExactDigitsOkSaid : Prop := fnExactDigitsOkRow.holds Try.pinned (OpenSpec.ofChange fnExactDigitsOkSpec)

/-- ITS FALSE NEIGHBOUR: 'it returns false'. Refute it at one input. -/
def fnExactDigitsOkWrong : ChangeSpec := { name := "fnExactDigitsOk", fn := fun _ => fun
  | [d1, d2] => { results := [.lit (.bool false)], args := [d1, d2] }
  | _ => none }
def FnExactDigitsOkWrongFalsely : Prop := fnExactDigitsOkRow.holds Try.pinned (OpenSpec.ofChange fnExactDigitsOkWrong)

/-- 'laws.FnExactDigitsOf': WHATEVER THE INPUT: true; the input reads as it did. -/
def fnExactDigitsOfSpec : ChangeSpec := { name := "fnExactDigitsOf", fn := fun _ => fun
  | [d1, d2] => { results := [.lit (.bool true)], args := [d1, d2] }
  | _ => none }
def fnExactDigitsOfRow : OpenClaim := { program := "ytdffcgfllpeppaa", sum := "7e20201fcae231d0c7487f2bcd01fada60a1475750030125d9b6629e46b5d024", func := "loop.example/g03203/laws.FnExactDigitsOf", spec := "fnExactDigitsOf", apart := false }
def FnExactDigitsOfSaid : Prop := fnExactDigitsOfRow.holds Try.pinned (OpenSpec.ofChange fnExactDigitsOfSpec)

/-- ITS FALSE NEIGHBOUR: 'it returns false'. Refute it at one input. -/
def fnExactDigitsOfWrong : ChangeSpec := { name := "fnExactDigitsOf", fn := fun _ => fun
  | [d1, d2] => { results := [.lit (.bool false)], args := [d1, d2] }
  | _ => none }
def FnExactDigitsOfWrongFalsely : Prop := fnExactDigitsOfRow.holds Try.pinned (OpenSpec.ofChange fnExactDigitsOfWrong)

/-- 'laws.FnExactIsSparse': WHATEVER THE INPUT: true; the input reads as it did. -/
def fnExactIsSparseSpec : ChangeSpec := { name := "fnExactIsSparse", fn := fun _ => fun
  | [d] => { results := [.lit (.bool true)], args := [d] }
  | _ => none }
def fnExactIsSparseRow : OpenClaim := { program := "ytdffcgfllpeppaa", sum := "7e20201fcae231d0c7487f2bcd01fada60a1475750030125d9b6629e46b5d024", func := "loop.example/g03203/laws.FnExactIsSparse", spec := "fnExactIsSparse", unfollowed := true, recurses := true, apart := false }
def FnExactIsSparseSaid : Prop := fnExactIsSparseRow.holds Try.pinned (OpenSpec.ofChange fnExactIsSparseSpec)

/-- ITS FALSE NEIGHBOUR: 'it returns false'. Refute it at one input. -/
def fnExactIsSparseWrong : ChangeSpec := { name := "fnExactIsSparse", fn := fun _ => fun
  | [d] => { results := [.lit (.bool false)], args := [d] }
  | _ => none }
def FnExactIsSparseWrongFalsely : Prop := fnExactIsSparseRow.holds Try.pinned (OpenSpec.ofChange fnExactIsSparseWrong)

/-- 'laws.FnExactWeightOf': WHATEVER THE INPUT: true; the input reads as it did. -/
def fnExactWeightOfSpec : ChangeSpec := { name := "fnExactWeightOf", fn := fun _ => fun
  | [d] => { results := [.lit (.bool true)], args := [d] }
  | _ => none }
def fnExactWeightOfRow : OpenClaim := { program := "ytdffcgfllpeppaa", sum := "7e20201fcae231d0c7487f2bcd01fada60a1475750030125d9b6629e46b5d024", func := "loop.example/g03203/laws.FnExactWeightOf", spec := "fnExactWeightOf", unfollowed := true, recurses := true, apart := false }
def FnExactWeightOfSaid : Prop := fnExactWeightOfRow.holds Try.pinned (OpenSpec.ofChange fnExactWeightOfSpec)

/-- ITS FALSE NEIGHBOUR: 'it returns false'. Refute it at one input. -/
def fnExactWeightOfWrong : ChangeSpec := { name := "fnExactWeightOf", fn := fun _ => fun
  | [d] => { results := [.lit (.bool false)], args := [d] }
  | _ => none }
def FnExactWeightOfWrongFalsely : Prop := fnExactWeightOfRow.holds Try.pinned (OpenSpec.ofChange fnExactWeightOfWrong)

/-- 'laws.FnExactFormatDigits': WHATEVER THE INPUT: true; the input reads as it did. -/
def fnExactFormatDigitsSpec : ChangeSpec := { name := "fnExactFormatDigits", fn := fun _ => fun
  | [d1, d2] => { results := [.lit (.bool true)], args := [d1, d2] }
  | _ => none }
def fnExactFormatDigitsRow : OpenClaim := { program := "ytdffcgfllpeppaa", sum := "7e20201fcae231d0c7487f2bcd01fada60a1475750030125d9b6629e46b5d024", func := "loop.example/g03203/laws.FnExactFormatDigits", spec := "fnExactFormatDigits", unfollowed := true, recurses := true, apart := false }
def FnExactFormatDigitsSaid : Prop := fnExactFormatDigitsRow.holds Try.pinned (OpenSpec.ofChange fnExactFormatDigitsSpec)

/-- ITS FALSE NEIGHBOUR: 'it returns false'. Refute it at one input. -/
def fnExactFormatDigitsWrong : ChangeSpec := { name := "fnExactFormatDigits", fn := fun _ => fun
  | [d1, d2] => { results := [.lit (.bool false)], args := [d1, d2] }
  | _ => none }
def FnExactFormatDigitsWrongFalsely : Prop := fnExactFormatDigitsRow.holds Try.pinned (OpenSpec.ofChange fnExactFormatDigitsWrong)

/-- 'laws.FnExactFormatBalanced': WHATEVER THE INPUT: true; the input reads as it did. -/
def fnExactFormatBalancedSpec : ChangeSpec := { name := "fnExactFormatBalanced", fn := fun _ => fun
  | [d] => { results := [.lit (.bool true)], args := [d] }
  | _ => none }
def fnExactFormatBalancedRow : OpenClaim := { program := "ytdffcgfllpeppaa", sum := "7e20201fcae231d0c7487f2bcd01fada60a1475750030125d9b6629e46b5d024", func := "loop.example/g03203/laws.FnExactFormatBalanced", spec := "fnExactFormatBalanced", unfollowed := true, recurses := true, apart := false }
def FnExactFormatBalancedSaid : Prop := fnExactFormatBalancedRow.holds Try.pinned (OpenSpec.ofChange fnExactFormatBalancedSpec)

/-- ITS FALSE NEIGHBOUR: 'it returns false'. Refute it at one input. -/
def fnExactFormatBalancedWrong : ChangeSpec := { name := "fnExactFormatBalanced", fn := fun _ => fun
  | [d] => { results := [.lit (.bool false)], args := [d] }
  | _ => none }
def FnExactFormatBalancedWrongFalsely : Prop := fnExactFormatBalancedRow.holds Try.pinned (OpenSpec.ofChange fnExactFormatBalancedWrong)

/-- 'laws.FnExactValueOf': WHATEVER THE INPUT: true; the input reads as it did. -/
def fnExactValueOfSpec : ChangeSpec := { name := "fnExactValueOf", fn := fun _ => fun
  | [d1, d2] => { results := [.lit (.bool true)], args := [d1, d2] }
  | _ => none }
def fnExactValueOfRow : OpenClaim := { program := "ytdffcgfllpeppaa", sum := "7e20201fcae231d0c7487f2bcd01fada60a1475750030125d9b6629e46b5d024", func := "loop.example/g03203/laws.FnExactValueOf", spec := "fnExactValueOf", unfollowed := true, recurses := true, apart := false }
def FnExactValueOfSaid : Prop := fnExactValueOfRow.holds Try.pinned (OpenSpec.ofChange fnExactValueOfSpec)

/-- ITS FALSE NEIGHBOUR: 'it returns false'. Refute it at one input. -/
def fnExactValueOfWrong : ChangeSpec := { name := "fnExactValueOf", fn := fun _ => fun
  | [d1, d2] => { results := [.lit (.bool false)], args := [d1, d2] }
  | _ => none }
def FnExactValueOfWrongFalsely : Prop := fnExactValueOfRow.holds Try.pinned (OpenSpec.ofChange fnExactValueOfWrong)

/-- 'laws.FnExactDropPlaces': WHATEVER THE INPUT: true; the input reads as it did. -/
def fnExactDropPlacesSpec : ChangeSpec := { name := "fnExactDropPlaces", fn := fun _ => fun
  | [d1, d2, d3] => { results := [.lit (.bool true)], args := [d1, d2, d3] }
  | _ => none }
def fnExactDropPlacesRow : OpenClaim := { program := "ytdffcgfllpeppaa", sum := "7e20201fcae231d0c7487f2bcd01fada60a1475750030125d9b6629e46b5d024", func := "loop.example/g03203/laws.FnExactDropPlaces", spec := "fnExactDropPlaces", unfollowed := true, recurses := true, apart := false }
def FnExactDropPlacesSaid : Prop := fnExactDropPlacesRow.holds Try.pinned (OpenSpec.ofChange fnExactDropPlacesSpec)

/-- ITS FALSE NEIGHBOUR: 'it returns false'. Refute it at one input. -/
def fnExactDropPlacesWrong : ChangeSpec := { name := "fnExactDropPlaces", fn := fun _ => fun
  | [d1, d2, d3] => { results := [.lit (.bool false)], args := [d1, d2, d3] }
  | _ => none }
def FnExactDropPlacesWrongFalsely : Prop := fnExactDropPlacesRow.holds Try.pinned (OpenSpec.ofChange fnExactDropPlacesWrong)

/-- 'laws.FnExactReverseNumber': WHATEVER THE INPUT: true; the input reads as it did. -/
def fnExactReverseNumberSpec : ChangeSpec := { name := "fnExactReverseNumber", fn := fun _ => fun
  | [d1, d2] => { results := [.lit (.bool true)], args := [d1, d2] }
  | _ => none }
def fnExactReverseNumberRow : OpenClaim := { program := "ytdffcgfllpeppaa", sum := "7e20201fcae231d0c7487f2bcd01fada60a1475750030125d9b6629e46b5d024", func := "loop.example/g03203/laws.FnExactReverseNumber", spec := "fnExactReverseNumber", unfollowed := true, recurses := true, apart := false }
def FnExactReverseNumberSaid : Prop := fnExactReverseNumberRow.holds Try.pinned (OpenSpec.ofChange fnExactReverseNumberSpec)

/-- ITS FALSE NEIGHBOUR: 'it returns false'. Refute it at one input. -/
def fnExactReverseNumberWrong : ChangeSpec := { name := "fnExactReverseNumber", fn := fun _ => fun
  | [d1, d2] => { results := [.lit (.bool false)], args := [d1, d2] }
  | _ => none }
def FnExactReverseNumberWrongFalsely : Prop := fnExactReverseNumberRow.holds Try.pinned (OpenSpec.ofChange fnExactReverseNumberWrong)

/-- 'laws.FnExactParseBalanced': WHATEVER THE INPUT: true; the input reads as it did. -/
def fnExactParseBalancedSpec : ChangeSpec := { name := "fnExactParseBalanced", fn := fun _ => fun
  | [d] => { results := [.lit (.bool true)], args := [d] }
  | _ => none }
def fnExactParseBalancedRow : OpenClaim := { program := "ytdffcgfllpeppaa", sum := "7e20201fcae231d0c7487f2bcd01fada60a1475750030125d9b6629e46b5d024", func := "loop.example/g03203/laws.FnExactParseBalanced", spec := "fnExactParseBalanced", inPlace := ["internal/bytealg.IndexByteString"], unfollowed := true, recurses := true, apart := false }
def FnExactParseBalancedSaid : Prop := fnExactParseBalancedRow.holds Try.pinned (OpenSpec.ofChange fnExactParseBalancedSpec)

/-- ITS FALSE NEIGHBOUR: 'it returns false'. Refute it at one input. -/
def fnExactParseBalancedWrong : ChangeSpec := { name := "fnExactParseBalanced", fn := fun _ => fun
  | [d] => { results := [.lit (.bool false)], args := [d] }
  | _ => none }
def FnExactParseBalancedWrongFalsely : Prop := fnExactParseBalancedRow.holds Try.pinned (OpenSpec.ofChange fnExactParseBalancedWrong)

/-- 'laws.FnExactParseDigits': WHATEVER THE INPUT: true; the input reads as it did. -/
def fnExactParseDigitsSpec : ChangeSpec := { name := "fnExactParseDigits", fn := fun _ => fun
  | [d1, d2] => { results := [.lit (.bool true)], args := [d1, d2] }
  | _ => none }
def fnExactParseDigitsRow : OpenClaim := { program := "ytdffcgfllpeppaa", sum := "7e20201fcae231d0c7487f2bcd01fada60a1475750030125d9b6629e46b5d024", func := "loop.example/g03203/laws.FnExactParseDigits", spec := "fnExactParseDigits", inPlace := ["internal/bytealg.IndexByteString"], unfollowed := true, recurses := true, apart := false }
def FnExactParseDigitsSaid : Prop := fnExactParseDigitsRow.holds Try.pinned (OpenSpec.ofChange fnExactParseDigitsSpec)

/-- ITS FALSE NEIGHBOUR: 'it returns false'. Refute it at one input. -/
def fnExactParseDigitsWrong : ChangeSpec := { name := "fnExactParseDigits", fn := fun _ => fun
  | [d1, d2] => { results := [.lit (.bool false)], args := [d1, d2] }
  | _ => none }
def FnExactParseDigitsWrongFalsely : Prop := fnExactParseDigitsRow.holds Try.pinned (OpenSpec.ofChange fnExactParseDigitsWrong)

/-- 'laws.FnDigits': WHATEVER THE INPUT: true; the input reads as it did. -/
def fnDigitsSpec : ChangeSpec := { name := "fnDigits", fn := fun _ => fun
  | [d] => { results := [.lit (.bool true)], args := [d] }
  | _ => none }
def fnDigitsRow : OpenClaim := { program := "ytdffcgfllpeppaa", sum := "7e20201fcae231d0c7487f2bcd01fada60a1475750030125d9b6629e46b5d024", func := "loop.example/g03203/laws.FnDigits", spec := "fnDigits", unfollowed := true, recurses := true, apart := false }
def FnDigitsSaid : Prop := fnDigitsRow.holds Try.pinned (OpenSpec.ofChange fnDigitsSpec)

/-- ITS FALSE NEIGHBOUR: 'it returns false'. Refute it at one input. -/
def fnDigitsWrong : ChangeSpec := { name := "fnDigits", fn := fun _ => fun
  | [d] => { results := [.lit (.bool false)], args := [d] }
  | _ => none }
def FnDigitsWrongFalsely : Prop := fnDigitsRow.holds Try.pinned (OpenSpec.ofChange fnDigitsWrong)

/- THE SECOND FORM. 'bulk': how many values and letters a reading holds, each counted each time it is reached (what is shared counts as often as it is met; a slice's spare places count too). A statement '..UptoSaid' is the law's where the arguments, and the package variables that the reading takes, are together of bulk at most 1048576: NARROWER than '..Said'. Prove '..Said' where nothing that the law and all that it calls make is longer than what came in: it says more and counts as full. Else prove '..UptoSaid'. A law counts once. -/
mutual
def uptoBulk {H : Type} : DataW H → Nat
  | .lit (.string bytes) => bytes.length + 1
  | .lit _ => 1
  | .nil => 1
  | .ptr d => uptoBulk d + 1
  | .slice elems spare => uptoBulkAll elems + uptoBulkAll spare + 1
  | .agg parts => uptoBulkAll parts + 1
  | .iface _ d => uptoBulk d + 1
  | .map entries => uptoBulkEntries entries + 1
  | .held _ => 1
def uptoBulkAll {H : Type} : List (DataW H) → Nat
  | [] => 0
  | d :: r => uptoBulk d + uptoBulkAll r
def uptoBulkEntries {H : Type} : List (Lit × DataW H) → Nat
  | [] => 0
  | x :: r => uptoBulkEntry x + uptoBulkEntries r
def uptoBulkEntry {H : Type} : Lit × DataW H → Nat
  | (.string bytes, d) => bytes.length + uptoBulk d + 1
  | (_, d) => uptoBulk d + 1
 end
def uptoSmall : (H : Type) → List (DataW H) → Bool := fun _ ds => decide (uptoBulkAll ds ≤ 1048576)
def OpenSpec.upto (s : _root_.Go.ChangeSpec) : _root_.Go.OpenSpec := { _root_.Go.OpenSpec.ofChange s with cond := some uptoSmall }

/-- 'laws.FnExactNegateDigits', WHERE WHAT IT READS IS OF BULK AT MOST 1048576: true; the input reads as it did. -/
def fnExactNegateDigitsUptoRow : OpenClaim := { program := "ytdffcgfllpeppaa", sum := "7e20201fcae231d0c7487f2bcd01fada60a1475750030125d9b6629e46b5d024", func := "loop.example/g03203/laws.FnExactNegateDigits", spec := "fnExactNegateDigits", apart := false, narrowed := true }
def FnExactNegateDigitsUptoSaid : Prop := fnExactNegateDigitsUptoRow.holds Try.pinned (OpenSpec.upto fnExactNegateDigitsSpec)

/-- 'laws.FnExactSignedOk', WHERE WHAT IT READS IS OF BULK AT MOST 1048576: true; the input reads as it did. -/
def fnExactSignedOkUptoRow : OpenClaim := { program := "ytdffcgfllpeppaa", sum := "7e20201fcae231d0c7487f2bcd01fada60a1475750030125d9b6629e46b5d024", func := "loop.example/g03203/laws.FnExactSignedOk", spec := "fnExactSignedOk", unfollowed := true, recurses := true, apart := false, narrowed := true }
def FnExactSignedOkUptoSaid : Prop := fnExactSignedOkUptoRow.holds Try.pinned (OpenSpec.upto fnExactSignedOkSpec)

/-- 'laws.FnExactDigitSum', WHERE WHAT IT READS IS OF BULK AT MOST 1048576: true; the input reads as it did. -/
def fnExactDigitSumUptoRow : OpenClaim := { program := "ytdffcgfllpeppaa", sum := "7e20201fcae231d0c7487f2bcd01fada60a1475750030125d9b6629e46b5d024", func := "loop.example/g03203/laws.FnExactDigitSum", spec := "fnExactDigitSum", apart := false, narrowed := true }
def FnExactDigitSumUptoSaid : Prop := fnExactDigitSumUptoRow.holds Try.pinned (OpenSpec.upto fnExactDigitSumSpec)

/-- 'laws.FnExactBalancedOk', WHERE WHAT IT READS IS OF BULK AT MOST 1048576: true; the input reads as it did. -/
def fnExactBalancedOkUptoRow : OpenClaim := { program := "ytdffcgfllpeppaa", sum := "7e20201fcae231d0c7487f2bcd01fada60a1475750030125d9b6629e46b5d024", func := "loop.example/g03203/laws.FnExactBalancedOk", spec := "fnExactBalancedOk", unfollowed := true, recurses := true, apart := false, narrowed := true }
def FnExactBalancedOkUptoSaid : Prop := fnExactBalancedOkUptoRow.holds Try.pinned (OpenSpec.upto fnExactBalancedOkSpec)

/-- 'laws.FnExactDigitsOk', WHERE WHAT IT READS IS OF BULK AT MOST 1048576: true; the input reads as it did. -/
def fnExactDigitsOkUptoRow : OpenClaim := { program := "ytdffcgfllpeppaa", sum := "7e20201fcae231d0c7487f2bcd01fada60a1475750030125d9b6629e46b5d024", func := "loop.example/g03203/laws.FnExactDigitsOk", spec := "fnExactDigitsOk", unfollowed := true, recurses := true, apart := false, narrowed := true }
def FnExactDigitsOkUptoSaid : Prop := fnExactDigitsOkUptoRow.holds Try.pinned (OpenSpec.upto fnExactDigitsOkSpec)

/-- 'laws.FnExactDigitsOf', WHERE WHAT IT READS IS OF BULK AT MOST 1048576: true; the input reads as it did. -/
def fnExactDigitsOfUptoRow : OpenClaim := { program := "ytdffcgfllpeppaa", sum := "7e20201fcae231d0c7487f2bcd01fada60a1475750030125d9b6629e46b5d024", func := "loop.example/g03203/laws.FnExactDigitsOf", spec := "fnExactDigitsOf", apart := false, narrowed := true }
def FnExactDigitsOfUptoSaid : Prop := fnExactDigitsOfUptoRow.holds Try.pinned (OpenSpec.upto fnExactDigitsOfSpec)

/-- 'laws.FnExactIsSparse', WHERE WHAT IT READS IS OF BULK AT MOST 1048576: true; the input reads as it did. -/
def fnExactIsSparseUptoRow : OpenClaim := { program := "ytdffcgfllpeppaa", sum := "7e20201fcae231d0c7487f2bcd01fada60a1475750030125d9b6629e46b5d024", func := "loop.example/g03203/laws.FnExactIsSparse", spec := "fnExactIsSparse", unfollowed := true, recurses := true, apart := false, narrowed := true }
def FnExactIsSparseUptoSaid : Prop := fnExactIsSparseUptoRow.holds Try.pinned (OpenSpec.upto fnExactIsSparseSpec)

/-- 'laws.FnExactWeightOf', WHERE WHAT IT READS IS OF BULK AT MOST 1048576: true; the input reads as it did. -/
def fnExactWeightOfUptoRow : OpenClaim := { program := "ytdffcgfllpeppaa", sum := "7e20201fcae231d0c7487f2bcd01fada60a1475750030125d9b6629e46b5d024", func := "loop.example/g03203/laws.FnExactWeightOf", spec := "fnExactWeightOf", unfollowed := true, recurses := true, apart := false, narrowed := true }
def FnExactWeightOfUptoSaid : Prop := fnExactWeightOfUptoRow.holds Try.pinned (OpenSpec.upto fnExactWeightOfSpec)

/-- 'laws.FnExactFormatDigits', WHERE WHAT IT READS IS OF BULK AT MOST 1048576: true; the input reads as it did. -/
def fnExactFormatDigitsUptoRow : OpenClaim := { program := "ytdffcgfllpeppaa", sum := "7e20201fcae231d0c7487f2bcd01fada60a1475750030125d9b6629e46b5d024", func := "loop.example/g03203/laws.FnExactFormatDigits", spec := "fnExactFormatDigits", unfollowed := true, recurses := true, apart := false, narrowed := true }
def FnExactFormatDigitsUptoSaid : Prop := fnExactFormatDigitsUptoRow.holds Try.pinned (OpenSpec.upto fnExactFormatDigitsSpec)

/-- 'laws.FnExactFormatBalanced', WHERE WHAT IT READS IS OF BULK AT MOST 1048576: true; the input reads as it did. -/
def fnExactFormatBalancedUptoRow : OpenClaim := { program := "ytdffcgfllpeppaa", sum := "7e20201fcae231d0c7487f2bcd01fada60a1475750030125d9b6629e46b5d024", func := "loop.example/g03203/laws.FnExactFormatBalanced", spec := "fnExactFormatBalanced", unfollowed := true, recurses := true, apart := false, narrowed := true }
def FnExactFormatBalancedUptoSaid : Prop := fnExactFormatBalancedUptoRow.holds Try.pinned (OpenSpec.upto fnExactFormatBalancedSpec)

/-- 'laws.FnExactValueOf', WHERE WHAT IT READS IS OF BULK AT MOST 1048576: true; the input reads as it did. -/
def fnExactValueOfUptoRow : OpenClaim := { program := "ytdffcgfllpeppaa", sum := "7e20201fcae231d0c7487f2bcd01fada60a1475750030125d9b6629e46b5d024", func := "loop.example/g03203/laws.FnExactValueOf", spec := "fnExactValueOf", unfollowed := true, recurses := true, apart := false, narrowed := true }
def FnExactValueOfUptoSaid : Prop := fnExactValueOfUptoRow.holds Try.pinned (OpenSpec.upto fnExactValueOfSpec)

/-- 'laws.FnExactDropPlaces', WHERE WHAT IT READS IS OF BULK AT MOST 1048576: true; the input reads as it did. -/
def fnExactDropPlacesUptoRow : OpenClaim := { program := "ytdffcgfllpeppaa", sum := "7e20201fcae231d0c7487f2bcd01fada60a1475750030125d9b6629e46b5d024", func := "loop.example/g03203/laws.FnExactDropPlaces", spec := "fnExactDropPlaces", unfollowed := true, recurses := true, apart := false, narrowed := true }
def FnExactDropPlacesUptoSaid : Prop := fnExactDropPlacesUptoRow.holds Try.pinned (OpenSpec.upto fnExactDropPlacesSpec)

/-- 'laws.FnExactReverseNumber', WHERE WHAT IT READS IS OF BULK AT MOST 1048576: true; the input reads as it did. -/
def fnExactReverseNumberUptoRow : OpenClaim := { program := "ytdffcgfllpeppaa", sum := "7e20201fcae231d0c7487f2bcd01fada60a1475750030125d9b6629e46b5d024", func := "loop.example/g03203/laws.FnExactReverseNumber", spec := "fnExactReverseNumber", unfollowed := true, recurses := true, apart := false, narrowed := true }
def FnExactReverseNumberUptoSaid : Prop := fnExactReverseNumberUptoRow.holds Try.pinned (OpenSpec.upto fnExactReverseNumberSpec)

/-- 'laws.FnExactParseBalanced', WHERE WHAT IT READS IS OF BULK AT MOST 1048576: true; the input reads as it did. -/
def fnExactParseBalancedUptoRow : OpenClaim := { program := "ytdffcgfllpeppaa", sum := "7e20201fcae231d0c7487f2bcd01fada60a1475750030125d9b6629e46b5d024", func := "loop.example/g03203/laws.FnExactParseBalanced", spec := "fnExactParseBalanced", inPlace := ["internal/bytealg.IndexByteString"], unfollowed := true, recurses := true, apart := false, narrowed := true }
def FnExactParseBalancedUptoSaid : Prop := fnExactParseBalancedUptoRow.holds Try.pinned (OpenSpec.upto fnExactParseBalancedSpec)

/-- 'laws.FnExactParseDigits', WHERE WHAT IT READS IS OF BULK AT MOST 1048576: true; the input reads as it did. -/
def fnExactParseDigitsUptoRow : OpenClaim := { program := "ytdffcgfllpeppaa", sum := "7e20201fcae231d0c7487f2bcd01fada60a1475750030125d9b6629e46b5d024", func := "loop.example/g03203/laws.FnExactParseDigits", spec := "fnExactParseDigits", inPlace := ["internal/bytealg.IndexByteString"], unfollowed := true, recurses := true, apart := false, narrowed := true }
def FnExactParseDigitsUptoSaid : Prop := fnExactParseDigitsUptoRow.holds Try.pinned (OpenSpec.upto fnExactParseDigitsSpec)

/-- 'laws.FnDigits', WHERE WHAT IT READS IS OF BULK AT MOST 1048576: true; the input reads as it did. -/
def fnDigitsUptoRow : OpenClaim := { program := "ytdffcgfllpeppaa", sum := "7e20201fcae231d0c7487f2bcd01fada60a1475750030125d9b6629e46b5d024", func := "loop.example/g03203/laws.FnDigits", spec := "fnDigits", unfollowed := true, recurses := true, apart := false, narrowed := true }
def FnDigitsUptoSaid : Prop := fnDigitsUptoRow.holds Try.pinned (OpenSpec.upto fnDigitsSpec)

end Rows
end Go.Proofs.Ytdffcgfllpeppaa
