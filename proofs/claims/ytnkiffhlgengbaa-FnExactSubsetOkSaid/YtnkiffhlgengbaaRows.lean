/-
  No cell of these rows narrows 'for every input' (looked for: loops, veiled, ifaces, maps, wideKeys, modest, calm, conditions, laid).
  DERIVED. THE GIVEN ROWS OF THIS SEAT. 12 by the template 'for every input the law returns true; each argument reads behind the call as it read before'; 0 by the template 'total and deterministic' (their statements: YtnkiffhlgengbaaTotals.lean).
  GIVEN WITH THE SEED: the statements are not yours to turn. If you find one false, say at which input.
  Laid BY PROGRAM, IN A SANDBOX (cutbox-rows.mjs): the forced cells as the released guide's own fill.sh prints them over the translation ce890a028d39045b… (all of the seat's roots in one cut). By AI agents, Wed Nov 11 2026. No macro, syntax, notation, axiom, sorry.
-/
import Derived.Test.YtnkiffhlgengbaaChecked
import GoSem.Claim
import GoSem.ClaimJoined
import GoSem.ClaimMapViews
import Derived.JoinedTies
import Derived.KernelRfl
namespace Go.Proofs.Ytnkiffhlgengbaa
/- THE CELL 'sum', in the pinned program and in every row, IS THE sha256 OF THE DUMP (.gsa) THAT YtnkiffhlgengbaaProg.lean LOADS. Nothing in Lean hashes anything: it is a label: what it is worth is what the hold of that sum in a sandbox is worth. -/
noncomputable def Try.pinned : Pinned := { name := "ytnkiffhlgengbaa", sum := "ce890a028d39045b986d8887ecd3fd4494fe42f111e2d8ccdd9f67b854d9be05", checked := Try.checked }
namespace Rows
def none {H : Type} : Left H := { results := [], args := [] }

/-- 'laws.FnExactConstants': WHATEVER THE INPUT: true; the input reads as it did. -/
def fnExactConstantsSpec : ChangeSpec := { name := "fnExactConstants", fn := fun _ => fun
  | [] => { results := [.lit (.bool true)], args := [] }
  | _ => none }
def fnExactConstantsRow : OpenClaim := { program := "ytnkiffhlgengbaa", sum := "ce890a028d39045b986d8887ecd3fd4494fe42f111e2d8ccdd9f67b854d9be05", func := "loop.example/g03203/laws.FnExactConstants", spec := "fnExactConstants", apart := false }
def FnExactConstantsSaid : Prop := fnExactConstantsRow.holds Try.pinned (OpenSpec.ofChange fnExactConstantsSpec)

/-- ITS FALSE NEIGHBOUR: 'it returns false'. Refute it at one input. -/
def fnExactConstantsWrong : ChangeSpec := { name := "fnExactConstants", fn := fun _ => fun
  | [] => { results := [.lit (.bool false)], args := [] }
  | _ => none }
def FnExactConstantsWrongFalsely : Prop := fnExactConstantsRow.holds Try.pinned (OpenSpec.ofChange fnExactConstantsWrong)

/-- 'laws.FnExactBaseOk': WHATEVER THE INPUT: true; the input reads as it did. -/
def fnExactBaseOkSpec : ChangeSpec := { name := "fnExactBaseOk", fn := fun _ => fun
  | [d] => { results := [.lit (.bool true)], args := [d] }
  | _ => none }
def fnExactBaseOkRow : OpenClaim := { program := "ytnkiffhlgengbaa", sum := "ce890a028d39045b986d8887ecd3fd4494fe42f111e2d8ccdd9f67b854d9be05", func := "loop.example/g03203/laws.FnExactBaseOk", spec := "fnExactBaseOk", apart := false }
def FnExactBaseOkSaid : Prop := fnExactBaseOkRow.holds Try.pinned (OpenSpec.ofChange fnExactBaseOkSpec)

/-- ITS FALSE NEIGHBOUR: 'it returns false'. Refute it at one input. -/
def fnExactBaseOkWrong : ChangeSpec := { name := "fnExactBaseOk", fn := fun _ => fun
  | [d] => { results := [.lit (.bool false)], args := [d] }
  | _ => none }
def FnExactBaseOkWrongFalsely : Prop := fnExactBaseOkRow.holds Try.pinned (OpenSpec.ofChange fnExactBaseOkWrong)

/-- 'laws.FnExactIsDigits': WHATEVER THE INPUT: true; the input reads as it did. -/
def fnExactIsDigitsSpec : ChangeSpec := { name := "fnExactIsDigits", fn := fun _ => fun
  | [d] => { results := [.lit (.bool true)], args := [d] }
  | _ => none }
def fnExactIsDigitsRow : OpenClaim := { program := "ytnkiffhlgengbaa", sum := "ce890a028d39045b986d8887ecd3fd4494fe42f111e2d8ccdd9f67b854d9be05", func := "loop.example/g03203/laws.FnExactIsDigits", spec := "fnExactIsDigits", apart := false }
def FnExactIsDigitsSaid : Prop := fnExactIsDigitsRow.holds Try.pinned (OpenSpec.ofChange fnExactIsDigitsSpec)

/-- ITS FALSE NEIGHBOUR: 'it returns false'. Refute it at one input. -/
def fnExactIsDigitsWrong : ChangeSpec := { name := "fnExactIsDigits", fn := fun _ => fun
  | [d] => { results := [.lit (.bool false)], args := [d] }
  | _ => none }
def FnExactIsDigitsWrongFalsely : Prop := fnExactIsDigitsRow.holds Try.pinned (OpenSpec.ofChange fnExactIsDigitsWrong)

/-- 'laws.FnExactFactorial': WHATEVER THE INPUT: true; the input reads as it did. -/
def fnExactFactorialSpec : ChangeSpec := { name := "fnExactFactorial", fn := fun _ => fun
  | [d] => { results := [.lit (.bool true)], args := [d] }
  | _ => none }
def fnExactFactorialRow : OpenClaim := { program := "ytnkiffhlgengbaa", sum := "ce890a028d39045b986d8887ecd3fd4494fe42f111e2d8ccdd9f67b854d9be05", func := "loop.example/g03203/laws.FnExactFactorial", spec := "fnExactFactorial", apart := false }
def FnExactFactorialSaid : Prop := fnExactFactorialRow.holds Try.pinned (OpenSpec.ofChange fnExactFactorialSpec)

/-- ITS FALSE NEIGHBOUR: 'it returns false'. Refute it at one input. -/
def fnExactFactorialWrong : ChangeSpec := { name := "fnExactFactorial", fn := fun _ => fun
  | [d] => { results := [.lit (.bool false)], args := [d] }
  | _ => none }
def FnExactFactorialWrongFalsely : Prop := fnExactFactorialRow.holds Try.pinned (OpenSpec.ofChange fnExactFactorialWrong)

/-- 'laws.FnExactIsName': WHATEVER THE INPUT: true; the input reads as it did. -/
def fnExactIsNameSpec : ChangeSpec := { name := "fnExactIsName", fn := fun _ => fun
  | [d] => { results := [.lit (.bool true)], args := [d] }
  | _ => none }
def fnExactIsNameRow : OpenClaim := { program := "ytnkiffhlgengbaa", sum := "ce890a028d39045b986d8887ecd3fd4494fe42f111e2d8ccdd9f67b854d9be05", func := "loop.example/g03203/laws.FnExactIsName", spec := "fnExactIsName", apart := false }
def FnExactIsNameSaid : Prop := fnExactIsNameRow.holds Try.pinned (OpenSpec.ofChange fnExactIsNameSpec)

/-- ITS FALSE NEIGHBOUR: 'it returns false'. Refute it at one input. -/
def fnExactIsNameWrong : ChangeSpec := { name := "fnExactIsName", fn := fun _ => fun
  | [d] => { results := [.lit (.bool false)], args := [d] }
  | _ => none }
def FnExactIsNameWrongFalsely : Prop := fnExactIsNameRow.holds Try.pinned (OpenSpec.ofChange fnExactIsNameWrong)

/-- 'laws.FnExactBinomial': WHATEVER THE INPUT: true; the input reads as it did. -/
def fnExactBinomialSpec : ChangeSpec := { name := "fnExactBinomial", fn := fun _ => fun
  | [d1, d2] => { results := [.lit (.bool true)], args := [d1, d2] }
  | _ => none }
def fnExactBinomialRow : OpenClaim := { program := "ytnkiffhlgengbaa", sum := "ce890a028d39045b986d8887ecd3fd4494fe42f111e2d8ccdd9f67b854d9be05", func := "loop.example/g03203/laws.FnExactBinomial", spec := "fnExactBinomial", apart := false }
def FnExactBinomialSaid : Prop := fnExactBinomialRow.holds Try.pinned (OpenSpec.ofChange fnExactBinomialSpec)

/-- ITS FALSE NEIGHBOUR: 'it returns false'. Refute it at one input. -/
def fnExactBinomialWrong : ChangeSpec := { name := "fnExactBinomial", fn := fun _ => fun
  | [d1, d2] => { results := [.lit (.bool false)], args := [d1, d2] }
  | _ => none }
def FnExactBinomialWrongFalsely : Prop := fnExactBinomialRow.holds Try.pinned (OpenSpec.ofChange fnExactBinomialWrong)

/-- 'laws.FnMixed': WHATEVER THE INPUT: true; the input reads as it did. -/
def fnMixedSpec : ChangeSpec := { name := "fnMixed", fn := fun _ => fun
  | [d] => { results := [.lit (.bool true)], args := [d] }
  | _ => none }
def fnMixedRow : OpenClaim := { program := "ytnkiffhlgengbaa", sum := "ce890a028d39045b986d8887ecd3fd4494fe42f111e2d8ccdd9f67b854d9be05", func := "loop.example/g03203/laws.FnMixed", spec := "fnMixed", unfollowed := true, recurses := true, apart := false }
def FnMixedSaid : Prop := fnMixedRow.holds Try.pinned (OpenSpec.ofChange fnMixedSpec)

/-- ITS FALSE NEIGHBOUR: 'it returns false'. Refute it at one input. -/
def fnMixedWrong : ChangeSpec := { name := "fnMixed", fn := fun _ => fun
  | [d] => { results := [.lit (.bool false)], args := [d] }
  | _ => none }
def FnMixedWrongFalsely : Prop := fnMixedRow.holds Try.pinned (OpenSpec.ofChange fnMixedWrong)

/-- 'laws.FnExactDigitAt': WHATEVER THE INPUT: true; the input reads as it did. -/
def fnExactDigitAtSpec : ChangeSpec := { name := "fnExactDigitAt", fn := fun _ => fun
  | [d1, d2, d3] => { results := [.lit (.bool true)], args := [d1, d2, d3] }
  | _ => none }
def fnExactDigitAtRow : OpenClaim := { program := "ytnkiffhlgengbaa", sum := "ce890a028d39045b986d8887ecd3fd4494fe42f111e2d8ccdd9f67b854d9be05", func := "loop.example/g03203/laws.FnExactDigitAt", spec := "fnExactDigitAt", apart := false }
def FnExactDigitAtSaid : Prop := fnExactDigitAtRow.holds Try.pinned (OpenSpec.ofChange fnExactDigitAtSpec)

/-- ITS FALSE NEIGHBOUR: 'it returns false'. Refute it at one input. -/
def fnExactDigitAtWrong : ChangeSpec := { name := "fnExactDigitAt", fn := fun _ => fun
  | [d1, d2, d3] => { results := [.lit (.bool false)], args := [d1, d2, d3] }
  | _ => none }
def FnExactDigitAtWrongFalsely : Prop := fnExactDigitAtRow.holds Try.pinned (OpenSpec.ofChange fnExactDigitAtWrong)

/-- 'laws.FnExactCountDigits': WHATEVER THE INPUT: true; the input reads as it did. -/
def fnExactCountDigitsSpec : ChangeSpec := { name := "fnExactCountDigits", fn := fun _ => fun
  | [d1, d2] => { results := [.lit (.bool true)], args := [d1, d2] }
  | _ => none }
def fnExactCountDigitsRow : OpenClaim := { program := "ytnkiffhlgengbaa", sum := "ce890a028d39045b986d8887ecd3fd4494fe42f111e2d8ccdd9f67b854d9be05", func := "loop.example/g03203/laws.FnExactCountDigits", spec := "fnExactCountDigits", apart := false }
def FnExactCountDigitsSaid : Prop := fnExactCountDigitsRow.holds Try.pinned (OpenSpec.ofChange fnExactCountDigitsSpec)

/-- ITS FALSE NEIGHBOUR: 'it returns false'. Refute it at one input. -/
def fnExactCountDigitsWrong : ChangeSpec := { name := "fnExactCountDigits", fn := fun _ => fun
  | [d1, d2] => { results := [.lit (.bool false)], args := [d1, d2] }
  | _ => none }
def FnExactCountDigitsWrongFalsely : Prop := fnExactCountDigitsRow.holds Try.pinned (OpenSpec.ofChange fnExactCountDigitsWrong)

/-- 'laws.FnExactSubsetOk': WHATEVER THE INPUT: true; the input reads as it did. -/
def fnExactSubsetOkSpec : ChangeSpec := { name := "fnExactSubsetOk", fn := fun _ => fun
  | [d1, d2] => { results := [.lit (.bool true)], args := [d1, d2] }
  | _ => none }
def fnExactSubsetOkRow : OpenClaim := { program := "ytnkiffhlgengbaa", sum := "ce890a028d39045b986d8887ecd3fd4494fe42f111e2d8ccdd9f67b854d9be05", func := "loop.example/g03203/laws.FnExactSubsetOk", spec := "fnExactSubsetOk", apart := false }
def FnExactSubsetOkSaid : Prop := fnExactSubsetOkRow.holds Try.pinned (OpenSpec.ofChange fnExactSubsetOkSpec)

/-- ITS FALSE NEIGHBOUR: 'it returns false'. Refute it at one input. -/
def fnExactSubsetOkWrong : ChangeSpec := { name := "fnExactSubsetOk", fn := fun _ => fun
  | [d1, d2] => { results := [.lit (.bool false)], args := [d1, d2] }
  | _ => none }
def FnExactSubsetOkWrongFalsely : Prop := fnExactSubsetOkRow.holds Try.pinned (OpenSpec.ofChange fnExactSubsetOkWrong)

/-- 'laws.FnExactCountSigned': WHATEVER THE INPUT: true; the input reads as it did. -/
def fnExactCountSignedSpec : ChangeSpec := { name := "fnExactCountSigned", fn := fun _ => fun
  | [d1, d2, d3] => { results := [.lit (.bool true)], args := [d1, d2, d3] }
  | _ => none }
def fnExactCountSignedRow : OpenClaim := { program := "ytnkiffhlgengbaa", sum := "ce890a028d39045b986d8887ecd3fd4494fe42f111e2d8ccdd9f67b854d9be05", func := "loop.example/g03203/laws.FnExactCountSigned", spec := "fnExactCountSigned", recurses := true, apart := false }
def FnExactCountSignedSaid : Prop := fnExactCountSignedRow.holds Try.pinned (OpenSpec.ofChange fnExactCountSignedSpec)

/-- ITS FALSE NEIGHBOUR: 'it returns false'. Refute it at one input. -/
def fnExactCountSignedWrong : ChangeSpec := { name := "fnExactCountSigned", fn := fun _ => fun
  | [d1, d2, d3] => { results := [.lit (.bool false)], args := [d1, d2, d3] }
  | _ => none }
def FnExactCountSignedWrongFalsely : Prop := fnExactCountSignedRow.holds Try.pinned (OpenSpec.ofChange fnExactCountSignedWrong)

/-- 'laws.FnExactNegaRange': WHATEVER THE INPUT: true; the input reads as it did. -/
def fnExactNegaRangeSpec : ChangeSpec := { name := "fnExactNegaRange", fn := fun _ => fun
  | [d1, d2] => { results := [.lit (.bool true)], args := [d1, d2] }
  | _ => none }
def fnExactNegaRangeRow : OpenClaim := { program := "ytnkiffhlgengbaa", sum := "ce890a028d39045b986d8887ecd3fd4494fe42f111e2d8ccdd9f67b854d9be05", func := "loop.example/g03203/laws.FnExactNegaRange", spec := "fnExactNegaRange", apart := false }
def FnExactNegaRangeSaid : Prop := fnExactNegaRangeRow.holds Try.pinned (OpenSpec.ofChange fnExactNegaRangeSpec)

/-- ITS FALSE NEIGHBOUR: 'it returns false'. Refute it at one input. -/
def fnExactNegaRangeWrong : ChangeSpec := { name := "fnExactNegaRange", fn := fun _ => fun
  | [d1, d2] => { results := [.lit (.bool false)], args := [d1, d2] }
  | _ => none }
def FnExactNegaRangeWrongFalsely : Prop := fnExactNegaRangeRow.holds Try.pinned (OpenSpec.ofChange fnExactNegaRangeWrong)

/- THE SECOND FORM. 'bulk': how many values and letters a reading holds, each counted each time it is reached (what is shared counts as often as it is met; a slice's spare places count too). A statement '..UptoSaid' is the law's where the arguments, and the package variables that the reading takes, are together of bulk at most 1048576: NARROWER than '..Said'. Prove '..Said' where nothing that the law and all that it calls make is longer than what came in: it says more and counts as full. Else prove '..UptoSaid'. A law counts once. -/
mutual
def uptoBulk {H : Type} : DataW H → Nat
  | .lit (.string bytes) => bytes.length + 1
  | .lit _ => 1
  | .nil => 1
  | .ptr d => uptoBulk d + 1
  | .slice elems spare => uptoBulkAll elems + uptoBulkAll spare + 1
  | .agg parts => uptoBulkAll parts + 1
  | .iface _ d => uptoBulk d + 1
  | .map entries => uptoBulkEntries entries + 1
  | .held _ => 1
def uptoBulkAll {H : Type} : List (DataW H) → Nat
  | [] => 0
  | d :: r => uptoBulk d + uptoBulkAll r
def uptoBulkEntries {H : Type} : List (Lit × DataW H) → Nat
  | [] => 0
  | x :: r => uptoBulkEntry x + uptoBulkEntries r
def uptoBulkEntry {H : Type} : Lit × DataW H → Nat
  | (.string bytes, d) => bytes.length + uptoBulk d + 1
  | (_, d) => uptoBulk d + 1
 end
def uptoSmall : (H : Type) → List (DataW H) → Bool := fun _ ds => decide (uptoBulkAll ds ≤ 1048576)
def OpenSpec.upto (s : _root_.Go.ChangeSpec) : _root_.Go.OpenSpec := { _root_.Go.OpenSpec.ofChange s with cond := some uptoSmall }

/-- 'laws.FnExactConstants', WHERE WHAT IT READS IS OF BULK AT MOST 1048576: true; the input reads as it did. -/
def fnExactConstantsUptoRow : OpenClaim := { program := "ytnkiffhlgengbaa", sum := "ce890a028d39045b986d8887ecd3fd4494fe42f111e2d8ccdd9f67b854d9be05", func := "loop.example/g03203/laws.FnExactConstants", spec := "fnExactConstants", apart := false, narrowed := true }
def FnExactConstantsUptoSaid : Prop := fnExactConstantsUptoRow.holds Try.pinned (OpenSpec.upto fnExactConstantsSpec)

/-- 'laws.FnExactBaseOk', WHERE WHAT IT READS IS OF BULK AT MOST 1048576: true; the input reads as it did. -/
def fnExactBaseOkUptoRow : OpenClaim := { program := "ytnkiffhlgengbaa", sum := "ce890a028d39045b986d8887ecd3fd4494fe42f111e2d8ccdd9f67b854d9be05", func := "loop.example/g03203/laws.FnExactBaseOk", spec := "fnExactBaseOk", apart := false, narrowed := true }
def FnExactBaseOkUptoSaid : Prop := fnExactBaseOkUptoRow.holds Try.pinned (OpenSpec.upto fnExactBaseOkSpec)

/-- 'laws.FnExactIsDigits', WHERE WHAT IT READS IS OF BULK AT MOST 1048576: true; the input reads as it did. -/
def fnExactIsDigitsUptoRow : OpenClaim := { program := "ytnkiffhlgengbaa", sum := "ce890a028d39045b986d8887ecd3fd4494fe42f111e2d8ccdd9f67b854d9be05", func := "loop.example/g03203/laws.FnExactIsDigits", spec := "fnExactIsDigits", apart := false, narrowed := true }
def FnExactIsDigitsUptoSaid : Prop := fnExactIsDigitsUptoRow.holds Try.pinned (OpenSpec.upto fnExactIsDigitsSpec)

/-- 'laws.FnExactFactorial', WHERE WHAT IT READS IS OF BULK AT MOST 1048576: true; the input reads as it did. -/
def fnExactFactorialUptoRow : OpenClaim := { program := "ytnkiffhlgengbaa", sum := "ce890a028d39045b986d8887ecd3fd4494fe42f111e2d8ccdd9f67b854d9be05", func := "loop.example/g03203/laws.FnExactFactorial", spec := "fnExactFactorial", apart := false, narrowed := true }
def FnExactFactorialUptoSaid : Prop := fnExactFactorialUptoRow.holds Try.pinned (OpenSpec.upto fnExactFactorialSpec)

/-- 'laws.FnExactIsName', WHERE WHAT IT READS IS OF BULK AT MOST 1048576: true; the input reads as it did. -/
def fnExactIsNameUptoRow : OpenClaim := { program := "ytnkiffhlgengbaa", sum := "ce890a028d39045b986d8887ecd3fd4494fe42f111e2d8ccdd9f67b854d9be05", func := "loop.example/g03203/laws.FnExactIsName", spec := "fnExactIsName", apart := false, narrowed := true }
def FnExactIsNameUptoSaid : Prop := fnExactIsNameUptoRow.holds Try.pinned (OpenSpec.upto fnExactIsNameSpec)

/-- 'laws.FnExactBinomial', WHERE WHAT IT READS IS OF BULK AT MOST 1048576: true; the input reads as it did. -/
def fnExactBinomialUptoRow : OpenClaim := { program := "ytnkiffhlgengbaa", sum := "ce890a028d39045b986d8887ecd3fd4494fe42f111e2d8ccdd9f67b854d9be05", func := "loop.example/g03203/laws.FnExactBinomial", spec := "fnExactBinomial", apart := false, narrowed := true }
def FnExactBinomialUptoSaid : Prop := fnExactBinomialUptoRow.holds Try.pinned (OpenSpec.upto fnExactBinomialSpec)

/-- 'laws.FnMixed', WHERE WHAT IT READS IS OF BULK AT MOST 1048576: true; the input reads as it did. -/
def fnMixedUptoRow : OpenClaim := { program := "ytnkiffhlgengbaa", sum := "ce890a028d39045b986d8887ecd3fd4494fe42f111e2d8ccdd9f67b854d9be05", func := "loop.example/g03203/laws.FnMixed", spec := "fnMixed", unfollowed := true, recurses := true, apart := false, narrowed := true }
def FnMixedUptoSaid : Prop := fnMixedUptoRow.holds Try.pinned (OpenSpec.upto fnMixedSpec)

/-- 'laws.FnExactDigitAt', WHERE WHAT IT READS IS OF BULK AT MOST 1048576: true; the input reads as it did. -/
def fnExactDigitAtUptoRow : OpenClaim := { program := "ytnkiffhlgengbaa", sum := "ce890a028d39045b986d8887ecd3fd4494fe42f111e2d8ccdd9f67b854d9be05", func := "loop.example/g03203/laws.FnExactDigitAt", spec := "fnExactDigitAt", apart := false, narrowed := true }
def FnExactDigitAtUptoSaid : Prop := fnExactDigitAtUptoRow.holds Try.pinned (OpenSpec.upto fnExactDigitAtSpec)

/-- 'laws.FnExactCountDigits', WHERE WHAT IT READS IS OF BULK AT MOST 1048576: true; the input reads as it did. -/
def fnExactCountDigitsUptoRow : OpenClaim := { program := "ytnkiffhlgengbaa", sum := "ce890a028d39045b986d8887ecd3fd4494fe42f111e2d8ccdd9f67b854d9be05", func := "loop.example/g03203/laws.FnExactCountDigits", spec := "fnExactCountDigits", apart := false, narrowed := true }
def FnExactCountDigitsUptoSaid : Prop := fnExactCountDigitsUptoRow.holds Try.pinned (OpenSpec.upto fnExactCountDigitsSpec)

/-- 'laws.FnExactSubsetOk', WHERE WHAT IT READS IS OF BULK AT MOST 1048576: true; the input reads as it did. -/
def fnExactSubsetOkUptoRow : OpenClaim := { program := "ytnkiffhlgengbaa", sum := "ce890a028d39045b986d8887ecd3fd4494fe42f111e2d8ccdd9f67b854d9be05", func := "loop.example/g03203/laws.FnExactSubsetOk", spec := "fnExactSubsetOk", apart := false, narrowed := true }
def FnExactSubsetOkUptoSaid : Prop := fnExactSubsetOkUptoRow.holds Try.pinned (OpenSpec.upto fnExactSubsetOkSpec)

/-- 'laws.FnExactCountSigned', WHERE WHAT IT READS IS OF BULK AT MOST 1048576: true; the input reads as it did. -/
def fnExactCountSignedUptoRow : OpenClaim := { program := "ytnkiffhlgengbaa", sum := "ce890a028d39045b986d8887ecd3fd4494fe42f111e2d8ccdd9f67b854d9be05", func := "loop.example/g03203/laws.FnExactCountSigned", spec := "fnExactCountSigned", recurses := true, apart := false, narrowed := true }
def FnExactCountSignedUptoSaid : Prop := fnExactCountSignedUptoRow.holds Try.pinned (OpenSpec.upto fnExactCountSignedSpec)

/-- 'laws.FnExactNegaRange', WHERE WHAT IT READS IS OF BULK AT MOST 1048576: true; the input reads as it did. -/
def fnExactNegaRangeUptoRow : OpenClaim := { program := "ytnkiffhlgengbaa", sum := "ce890a028d39045b986d8887ecd3fd4494fe42f111e2d8ccdd9f67b854d9be05", func := "loop.example/g03203/laws.FnExactNegaRange", spec := "fnExactNegaRange", apart := false, narrowed := true }
def FnExactNegaRangeUptoSaid : Prop := fnExactNegaRangeUptoRow.holds Try.pinned (OpenSpec.upto fnExactNegaRangeSpec)

end Rows
end Go.Proofs.Ytnkiffhlgengbaa
