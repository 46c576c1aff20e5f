/-
  No cell of these rows narrows 'for every input' (looked for: loops, veiled, ifaces, maps, wideKeys, modest, calm, conditions, laid).
  DERIVED. THE GIVEN ROWS OF THIS SEAT. 15 by the template 'for every input the law returns true; each argument reads behind the call as it read before'; 0 by the template 'total and deterministic' (their statements: YtompdebingllmaaTotals.lean).
  GIVEN WITH THE SEED: the statements are not yours to turn. If you find one false, say at which input.
  Laid BY PROGRAM, IN A SANDBOX (cutbox-rows.mjs): the forced cells as the released guide's own fill.sh prints them over the translation 0e4d5f67bd4ec3bc… (all of the seat's roots in one cut). By AI agents, Wed Nov 11 2026. No macro, syntax, notation, axiom, sorry.
-/
import Derived.Test.YtompdebingllmaaChecked
import GoSem.Claim
import GoSem.ClaimJoined
import GoSem.ClaimMapViews
import Derived.JoinedTies
import Derived.KernelRfl
namespace Go.Proofs.Ytompdebingllmaa
/- THE CELL 'sum', in the pinned program and in every row, IS THE sha256 OF THE DUMP (.gsa) THAT YtompdebingllmaaProg.lean LOADS. Nothing in Lean hashes anything: it is a label: what it is worth is what the hold of that sum in a sandbox is worth. -/
noncomputable def Try.pinned : Pinned := { name := "ytompdebingllmaa", sum := "0e4d5f67bd4ec3bc497238c4015ee31142d10f0de248802c9dc06865963e5da8", checked := Try.checked }
namespace Rows
def none {H : Type} : Left H := { results := [], args := [] }

/-- 'laws.FnExactCodeMend': WHATEVER THE INPUT: true; the input reads as it did. -/
def fnExactCodeMendSpec : ChangeSpec := { name := "fnExactCodeMend", fn := fun _ => fun
  | [d] => { results := [.lit (.bool true)], args := [d] }
  | _ => none }
def fnExactCodeMendRow : OpenClaim := { program := "ytompdebingllmaa", sum := "0e4d5f67bd4ec3bc497238c4015ee31142d10f0de248802c9dc06865963e5da8", func := "loop.example/golayoctads/laws.FnExactCodeMend", spec := "fnExactCodeMend", recurses := true, apart := false }
def FnExactCodeMendSaid : Prop := fnExactCodeMendRow.holds Try.pinned (OpenSpec.ofChange fnExactCodeMendSpec)

/-- ITS FALSE NEIGHBOUR: 'it returns false'. Refute it at one input. -/
def fnExactCodeMendWrong : ChangeSpec := { name := "fnExactCodeMend", fn := fun _ => fun
  | [d] => { results := [.lit (.bool false)], args := [d] }
  | _ => none }
def FnExactCodeMendWrongFalsely : Prop := fnExactCodeMendRow.holds Try.pinned (OpenSpec.ofChange fnExactCodeMendWrong)

/-- 'laws.FnExactCodeNear': WHATEVER THE INPUT: true; the input reads as it did. -/
def fnExactCodeNearSpec : ChangeSpec := { name := "fnExactCodeNear", fn := fun _ => fun
  | [d] => { results := [.lit (.bool true)], args := [d] }
  | _ => none }
def fnExactCodeNearRow : OpenClaim := { program := "ytompdebingllmaa", sum := "0e4d5f67bd4ec3bc497238c4015ee31142d10f0de248802c9dc06865963e5da8", func := "loop.example/golayoctads/laws.FnExactCodeNear", spec := "fnExactCodeNear", recurses := true, apart := false }
def FnExactCodeNearSaid : Prop := fnExactCodeNearRow.holds Try.pinned (OpenSpec.ofChange fnExactCodeNearSpec)

/-- ITS FALSE NEIGHBOUR: 'it returns false'. Refute it at one input. -/
def fnExactCodeNearWrong : ChangeSpec := { name := "fnExactCodeNear", fn := fun _ => fun
  | [d] => { results := [.lit (.bool false)], args := [d] }
  | _ => none }
def FnExactCodeNearWrongFalsely : Prop := fnExactCodeNearRow.holds Try.pinned (OpenSpec.ofChange fnExactCodeNearWrong)

/-- 'laws.FnFar': WHATEVER THE INPUT: true; the input reads as it did. -/
def fnFarSpec : ChangeSpec := { name := "fnFar", fn := fun _ => fun
  | [d] => { results := [.lit (.bool true)], args := [d] }
  | _ => none }
def fnFarRow : OpenClaim := { program := "ytompdebingllmaa", sum := "0e4d5f67bd4ec3bc497238c4015ee31142d10f0de248802c9dc06865963e5da8", func := "loop.example/golayoctads/laws.FnFar", spec := "fnFar", recurses := true, apart := false }
def FnFarSaid : Prop := fnFarRow.holds Try.pinned (OpenSpec.ofChange fnFarSpec)

/-- ITS FALSE NEIGHBOUR: 'it returns false'. Refute it at one input. -/
def fnFarWrong : ChangeSpec := { name := "fnFar", fn := fun _ => fun
  | [d] => { results := [.lit (.bool false)], args := [d] }
  | _ => none }
def FnFarWrongFalsely : Prop := fnFarRow.holds Try.pinned (OpenSpec.ofChange fnFarWrong)

/-- 'laws.FnExactCodeScores': WHATEVER THE INPUT: true; the input reads as it did. -/
def fnExactCodeScoresSpec : ChangeSpec := { name := "fnExactCodeScores", fn := fun _ => fun
  | [d] => { results := [.lit (.bool true)], args := [d] }
  | _ => none }
def fnExactCodeScoresRow : OpenClaim := { program := "ytompdebingllmaa", sum := "0e4d5f67bd4ec3bc497238c4015ee31142d10f0de248802c9dc06865963e5da8", func := "loop.example/golayoctads/laws.FnExactCodeScores", spec := "fnExactCodeScores", apart := false }
def FnExactCodeScoresSaid : Prop := fnExactCodeScoresRow.holds Try.pinned (OpenSpec.ofChange fnExactCodeScoresSpec)

/-- ITS FALSE NEIGHBOUR: 'it returns false'. Refute it at one input. -/
def fnExactCodeScoresWrong : ChangeSpec := { name := "fnExactCodeScores", fn := fun _ => fun
  | [d] => { results := [.lit (.bool false)], args := [d] }
  | _ => none }
def FnExactCodeScoresWrongFalsely : Prop := fnExactCodeScoresRow.holds Try.pinned (OpenSpec.ofChange fnExactCodeScoresWrong)

/-- 'laws.FnExactCodeOf': WHATEVER THE INPUT: true; the input reads as it did. -/
def fnExactCodeOfSpec : ChangeSpec := { name := "fnExactCodeOf", fn := fun _ => fun
  | [d] => { results := [.lit (.bool true)], args := [d] }
  | _ => none }
def fnExactCodeOfRow : OpenClaim := { program := "ytompdebingllmaa", sum := "0e4d5f67bd4ec3bc497238c4015ee31142d10f0de248802c9dc06865963e5da8", func := "loop.example/golayoctads/laws.FnExactCodeOf", spec := "fnExactCodeOf", apart := false }
def FnExactCodeOfSaid : Prop := fnExactCodeOfRow.holds Try.pinned (OpenSpec.ofChange fnExactCodeOfSpec)

/-- ITS FALSE NEIGHBOUR: 'it returns false'. Refute it at one input. -/
def fnExactCodeOfWrong : ChangeSpec := { name := "fnExactCodeOf", fn := fun _ => fun
  | [d] => { results := [.lit (.bool false)], args := [d] }
  | _ => none }
def FnExactCodeOfWrongFalsely : Prop := fnExactCodeOfRow.holds Try.pinned (OpenSpec.ofChange fnExactCodeOfWrong)

/-- 'laws.FnScores': WHATEVER THE INPUT: true; the input reads as it did. -/
def fnScoresSpec : ChangeSpec := { name := "fnScores", fn := fun _ => fun
  | [d] => { results := [.lit (.bool true)], args := [d] }
  | _ => none }
def fnScoresRow : OpenClaim := { program := "ytompdebingllmaa", sum := "0e4d5f67bd4ec3bc497238c4015ee31142d10f0de248802c9dc06865963e5da8", func := "loop.example/golayoctads/laws.FnScores", spec := "fnScores", apart := false }
def FnScoresSaid : Prop := fnScoresRow.holds Try.pinned (OpenSpec.ofChange fnScoresSpec)

/-- ITS FALSE NEIGHBOUR: 'it returns false'. Refute it at one input. -/
def fnScoresWrong : ChangeSpec := { name := "fnScores", fn := fun _ => fun
  | [d] => { results := [.lit (.bool false)], args := [d] }
  | _ => none }
def FnScoresWrongFalsely : Prop := fnScoresRow.holds Try.pinned (OpenSpec.ofChange fnScoresWrong)

/-- 'laws.FnExactCodeWeights': WHATEVER THE INPUT: true; the input reads as it did. -/
def fnExactCodeWeightsSpec : ChangeSpec := { name := "fnExactCodeWeights", fn := fun _ => fun
  | [d1, d2] => { results := [.lit (.bool true)], args := [d1, d2] }
  | _ => none }
def fnExactCodeWeightsRow : OpenClaim := { program := "ytompdebingllmaa", sum := "0e4d5f67bd4ec3bc497238c4015ee31142d10f0de248802c9dc06865963e5da8", func := "loop.example/golayoctads/laws.FnExactCodeWeights", spec := "fnExactCodeWeights", apart := false }
def FnExactCodeWeightsSaid : Prop := fnExactCodeWeightsRow.holds Try.pinned (OpenSpec.ofChange fnExactCodeWeightsSpec)

/-- ITS FALSE NEIGHBOUR: 'it returns false'. Refute it at one input. -/
def fnExactCodeWeightsWrong : ChangeSpec := { name := "fnExactCodeWeights", fn := fun _ => fun
  | [d1, d2] => { results := [.lit (.bool false)], args := [d1, d2] }
  | _ => none }
def FnExactCodeWeightsWrongFalsely : Prop := fnExactCodeWeightsRow.holds Try.pinned (OpenSpec.ofChange fnExactCodeWeightsWrong)

/-- 'laws.FnWeights': WHATEVER THE INPUT: true; the input reads as it did. -/
def fnWeightsSpec : ChangeSpec := { name := "fnWeights", fn := fun _ => fun
  | [d] => { results := [.lit (.bool true)], args := [d] }
  | _ => none }
def fnWeightsRow : OpenClaim := { program := "ytompdebingllmaa", sum := "0e4d5f67bd4ec3bc497238c4015ee31142d10f0de248802c9dc06865963e5da8", func := "loop.example/golayoctads/laws.FnWeights", spec := "fnWeights", apart := false }
def FnWeightsSaid : Prop := fnWeightsRow.holds Try.pinned (OpenSpec.ofChange fnWeightsSpec)

/-- ITS FALSE NEIGHBOUR: 'it returns false'. Refute it at one input. -/
def fnWeightsWrong : ChangeSpec := { name := "fnWeights", fn := fun _ => fun
  | [d] => { results := [.lit (.bool false)], args := [d] }
  | _ => none }
def FnWeightsWrongFalsely : Prop := fnWeightsRow.holds Try.pinned (OpenSpec.ofChange fnWeightsWrong)

/-- 'laws.FnExactCodeIn': WHATEVER THE INPUT: true; the input reads as it did. -/
def fnExactCodeInSpec : ChangeSpec := { name := "fnExactCodeIn", fn := fun _ => fun
  | [d] => { results := [.lit (.bool true)], args := [d] }
  | _ => none }
def fnExactCodeInRow : OpenClaim := { program := "ytompdebingllmaa", sum := "0e4d5f67bd4ec3bc497238c4015ee31142d10f0de248802c9dc06865963e5da8", func := "loop.example/golayoctads/laws.FnExactCodeIn", spec := "fnExactCodeIn", apart := false }
def FnExactCodeInSaid : Prop := fnExactCodeInRow.holds Try.pinned (OpenSpec.ofChange fnExactCodeInSpec)

/-- ITS FALSE NEIGHBOUR: 'it returns false'. Refute it at one input. -/
def fnExactCodeInWrong : ChangeSpec := { name := "fnExactCodeIn", fn := fun _ => fun
  | [d] => { results := [.lit (.bool false)], args := [d] }
  | _ => none }
def FnExactCodeInWrongFalsely : Prop := fnExactCodeInRow.holds Try.pinned (OpenSpec.ofChange fnExactCodeInWrong)

/-- 'laws.FnCodeOf': WHATEVER THE INPUT: true; the input reads as it did. -/
def fnCodeOfSpec : ChangeSpec := { name := "fnCodeOf", fn := fun _ => fun
  | [d] => { results := [.lit (.bool true)], args := [d] }
  | _ => none }
def fnCodeOfRow : OpenClaim := { program := "ytompdebingllmaa", sum := "0e4d5f67bd4ec3bc497238c4015ee31142d10f0de248802c9dc06865963e5da8", func := "loop.example/golayoctads/laws.FnCodeOf", spec := "fnCodeOf", apart := false }
def FnCodeOfSaid : Prop := fnCodeOfRow.holds Try.pinned (OpenSpec.ofChange fnCodeOfSpec)

/-- ITS FALSE NEIGHBOUR: 'it returns false'. Refute it at one input. -/
def fnCodeOfWrong : ChangeSpec := { name := "fnCodeOf", fn := fun _ => fun
  | [d] => { results := [.lit (.bool false)], args := [d] }
  | _ => none }
def FnCodeOfWrongFalsely : Prop := fnCodeOfRow.holds Try.pinned (OpenSpec.ofChange fnCodeOfWrong)

/-- 'laws.FnExactCodeMessage': WHATEVER THE INPUT: true; the input reads as it did. -/
def fnExactCodeMessageSpec : ChangeSpec := { name := "fnExactCodeMessage", fn := fun _ => fun
  | [d] => { results := [.lit (.bool true)], args := [d] }
  | _ => none }
def fnExactCodeMessageRow : OpenClaim := { program := "ytompdebingllmaa", sum := "0e4d5f67bd4ec3bc497238c4015ee31142d10f0de248802c9dc06865963e5da8", func := "loop.example/golayoctads/laws.FnExactCodeMessage", spec := "fnExactCodeMessage", apart := false }
def FnExactCodeMessageSaid : Prop := fnExactCodeMessageRow.holds Try.pinned (OpenSpec.ofChange fnExactCodeMessageSpec)

/-- ITS FALSE NEIGHBOUR: 'it returns false'. Refute it at one input. -/
def fnExactCodeMessageWrong : ChangeSpec := { name := "fnExactCodeMessage", fn := fun _ => fun
  | [d] => { results := [.lit (.bool false)], args := [d] }
  | _ => none }
def FnExactCodeMessageWrongFalsely : Prop := fnExactCodeMessageRow.holds Try.pinned (OpenSpec.ofChange fnExactCodeMessageWrong)

/-- 'laws.FnCodeIn': WHATEVER THE INPUT: true; the input reads as it did. -/
def fnCodeInSpec : ChangeSpec := { name := "fnCodeIn", fn := fun _ => fun
  | [d] => { results := [.lit (.bool true)], args := [d] }
  | _ => none }
def fnCodeInRow : OpenClaim := { program := "ytompdebingllmaa", sum := "0e4d5f67bd4ec3bc497238c4015ee31142d10f0de248802c9dc06865963e5da8", func := "loop.example/golayoctads/laws.FnCodeIn", spec := "fnCodeIn", apart := false }
def FnCodeInSaid : Prop := fnCodeInRow.holds Try.pinned (OpenSpec.ofChange fnCodeInSpec)

/-- ITS FALSE NEIGHBOUR: 'it returns false'. Refute it at one input. -/
def fnCodeInWrong : ChangeSpec := { name := "fnCodeIn", fn := fun _ => fun
  | [d] => { results := [.lit (.bool false)], args := [d] }
  | _ => none }
def FnCodeInWrongFalsely : Prop := fnCodeInRow.holds Try.pinned (OpenSpec.ofChange fnCodeInWrong)

/-- 'laws.FnMessage': WHATEVER THE INPUT: true; the input reads as it did. -/
def fnMessageSpec : ChangeSpec := { name := "fnMessage", fn := fun _ => fun
  | [d] => { results := [.lit (.bool true)], args := [d] }
  | _ => none }
def fnMessageRow : OpenClaim := { program := "ytompdebingllmaa", sum := "0e4d5f67bd4ec3bc497238c4015ee31142d10f0de248802c9dc06865963e5da8", func := "loop.example/golayoctads/laws.FnMessage", spec := "fnMessage", apart := false }
def FnMessageSaid : Prop := fnMessageRow.holds Try.pinned (OpenSpec.ofChange fnMessageSpec)

/-- ITS FALSE NEIGHBOUR: 'it returns false'. Refute it at one input. -/
def fnMessageWrong : ChangeSpec := { name := "fnMessage", fn := fun _ => fun
  | [d] => { results := [.lit (.bool false)], args := [d] }
  | _ => none }
def FnMessageWrongFalsely : Prop := fnMessageRow.holds Try.pinned (OpenSpec.ofChange fnMessageWrong)

/-- 'laws.FnMended': WHATEVER THE INPUT: true; the input reads as it did. -/
def fnMendedSpec : ChangeSpec := { name := "fnMended", fn := fun _ => fun
  | [d] => { results := [.lit (.bool true)], args := [d] }
  | _ => none }
def fnMendedRow : OpenClaim := { program := "ytompdebingllmaa", sum := "0e4d5f67bd4ec3bc497238c4015ee31142d10f0de248802c9dc06865963e5da8", func := "loop.example/golayoctads/laws.FnMended", spec := "fnMended", recurses := true, apart := false }
def FnMendedSaid : Prop := fnMendedRow.holds Try.pinned (OpenSpec.ofChange fnMendedSpec)

/-- ITS FALSE NEIGHBOUR: 'it returns false'. Refute it at one input. -/
def fnMendedWrong : ChangeSpec := { name := "fnMended", fn := fun _ => fun
  | [d] => { results := [.lit (.bool false)], args := [d] }
  | _ => none }
def FnMendedWrongFalsely : Prop := fnMendedRow.holds Try.pinned (OpenSpec.ofChange fnMendedWrong)

/-- 'laws.FnExactCodeFar': WHATEVER THE INPUT: true; the input reads as it did. -/
def fnExactCodeFarSpec : ChangeSpec := { name := "fnExactCodeFar", fn := fun _ => fun
  | [d] => { results := [.lit (.bool true)], args := [d] }
  | _ => none }
def fnExactCodeFarRow : OpenClaim := { program := "ytompdebingllmaa", sum := "0e4d5f67bd4ec3bc497238c4015ee31142d10f0de248802c9dc06865963e5da8", func := "loop.example/golayoctads/laws.FnExactCodeFar", spec := "fnExactCodeFar", recurses := true, apart := false }
def FnExactCodeFarSaid : Prop := fnExactCodeFarRow.holds Try.pinned (OpenSpec.ofChange fnExactCodeFarSpec)

/-- ITS FALSE NEIGHBOUR: 'it returns false'. Refute it at one input. -/
def fnExactCodeFarWrong : ChangeSpec := { name := "fnExactCodeFar", fn := fun _ => fun
  | [d] => { results := [.lit (.bool false)], args := [d] }
  | _ => none }
def FnExactCodeFarWrongFalsely : Prop := fnExactCodeFarRow.holds Try.pinned (OpenSpec.ofChange fnExactCodeFarWrong)

/- THE SECOND FORM. 'bulk': how many values and letters a reading holds, each counted each time it is reached (what is shared counts as often as it is met; a slice's spare places count too). A statement '..UptoSaid' is the law's where the arguments, and the package variables that the reading takes, are together of bulk at most 1048576: NARROWER than '..Said'. Prove '..Said' where nothing that the law and all that it calls make is longer than what came in: it says more and counts as full. Else prove '..UptoSaid'. A law counts once. -/
mutual
def uptoBulk {H : Type} : DataW H → Nat
  | .lit (.string bytes) => bytes.length + 1
  | .lit _ => 1
  | .nil => 1
  | .ptr d => uptoBulk d + 1
  | .slice elems spare => uptoBulkAll elems + uptoBulkAll spare + 1
  | .agg parts => uptoBulkAll parts + 1
  | .iface _ d => uptoBulk d + 1
  | .map entries => uptoBulkEntries entries + 1
  | .held _ => 1
def uptoBulkAll {H : Type} : List (DataW H) → Nat
  | [] => 0
  | d :: r => uptoBulk d + uptoBulkAll r
def uptoBulkEntries {H : Type} : List (Lit × DataW H) → Nat
  | [] => 0
  | x :: r => uptoBulkEntry x + uptoBulkEntries r
def uptoBulkEntry {H : Type} : Lit × DataW H → Nat
  | (.string bytes, d) => bytes.length + uptoBulk d + 1
  | (_, d) => uptoBulk d + 1
 end
def uptoSmall : (H : Type) → List (DataW H) → Bool := fun _ ds => decide (uptoBulkAll ds ≤ 1048576)
def OpenSpec.upto (s : _root_.Go.ChangeSpec) : _root_.Go.OpenSpec := { _root_.Go.OpenSpec.ofChange s with cond := some uptoSmall }

/-- 'laws.FnExactCodeMend', WHERE WHAT IT READS IS OF BULK AT MOST 1048576: true; the input reads as it did. -/
def fnExactCodeMendUptoRow : OpenClaim := { program := "ytompdebingllmaa", sum := "0e4d5f67bd4ec3bc497238c4015ee31142d10f0de248802c9dc06865963e5da8", func := "loop.example/golayoctads/laws.FnExactCodeMend", spec := "fnExactCodeMend", recurses := true, apart := false, narrowed := true }
def FnExactCodeMendUptoSaid : Prop := fnExactCodeMendUptoRow.holds Try.pinned (OpenSpec.upto fnExactCodeMendSpec)

/-- 'laws.FnExactCodeNear', WHERE WHAT IT READS IS OF BULK AT MOST 1048576: true; the input reads as it did. -/
def fnExactCodeNearUptoRow : OpenClaim := { program := "ytompdebingllmaa", sum := "0e4d5f67bd4ec3bc497238c4015ee31142d10f0de248802c9dc06865963e5da8", func := "loop.example/golayoctads/laws.FnExactCodeNear", spec := "fnExactCodeNear", recurses := true, apart := false, narrowed := true }
def FnExactCodeNearUptoSaid : Prop := fnExactCodeNearUptoRow.holds Try.pinned (OpenSpec.upto fnExactCodeNearSpec)

/-- 'laws.FnFar', WHERE WHAT IT READS IS OF BULK AT MOST 1048576: true; the input reads as it did. -/
def fnFarUptoRow : OpenClaim := { program := "ytompdebingllmaa", sum := "0e4d5f67bd4ec3bc497238c4015ee31142d10f0de248802c9dc06865963e5da8", func := "loop.example/golayoctads/laws.FnFar", spec := "fnFar", recurses := true, apart := false, narrowed := true }
def FnFarUptoSaid : Prop := fnFarUptoRow.holds Try.pinned (OpenSpec.upto fnFarSpec)

/-- 'laws.FnExactCodeScores', WHERE WHAT IT READS IS OF BULK AT MOST 1048576: true; the input reads as it did. -/
def fnExactCodeScoresUptoRow : OpenClaim := { program := "ytompdebingllmaa", sum := "0e4d5f67bd4ec3bc497238c4015ee31142d10f0de248802c9dc06865963e5da8", func := "loop.example/golayoctads/laws.FnExactCodeScores", spec := "fnExactCodeScores", apart := false, narrowed := true }
def FnExactCodeScoresUptoSaid : Prop := fnExactCodeScoresUptoRow.holds Try.pinned (OpenSpec.upto fnExactCodeScoresSpec)

/-- 'laws.FnExactCodeOf', WHERE WHAT IT READS IS OF BULK AT MOST 1048576: true; the input reads as it did. -/
def fnExactCodeOfUptoRow : OpenClaim := { program := "ytompdebingllmaa", sum := "0e4d5f67bd4ec3bc497238c4015ee31142d10f0de248802c9dc06865963e5da8", func := "loop.example/golayoctads/laws.FnExactCodeOf", spec := "fnExactCodeOf", apart := false, narrowed := true }
def FnExactCodeOfUptoSaid : Prop := fnExactCodeOfUptoRow.holds Try.pinned (OpenSpec.upto fnExactCodeOfSpec)

/-- 'laws.FnScores', WHERE WHAT IT READS IS OF BULK AT MOST 1048576: true; the input reads as it did. -/
def fnScoresUptoRow : OpenClaim := { program := "ytompdebingllmaa", sum := "0e4d5f67bd4ec3bc497238c4015ee31142d10f0de248802c9dc06865963e5da8", func := "loop.example/golayoctads/laws.FnScores", spec := "fnScores", apart := false, narrowed := true }
def FnScoresUptoSaid : Prop := fnScoresUptoRow.holds Try.pinned (OpenSpec.upto fnScoresSpec)

/-- 'laws.FnExactCodeWeights', WHERE WHAT IT READS IS OF BULK AT MOST 1048576: true; the input reads as it did. -/
def fnExactCodeWeightsUptoRow : OpenClaim := { program := "ytompdebingllmaa", sum := "0e4d5f67bd4ec3bc497238c4015ee31142d10f0de248802c9dc06865963e5da8", func := "loop.example/golayoctads/laws.FnExactCodeWeights", spec := "fnExactCodeWeights", apart := false, narrowed := true }
def FnExactCodeWeightsUptoSaid : Prop := fnExactCodeWeightsUptoRow.holds Try.pinned (OpenSpec.upto fnExactCodeWeightsSpec)

/-- 'laws.FnWeights', WHERE WHAT IT READS IS OF BULK AT MOST 1048576: true; the input reads as it did. -/
def fnWeightsUptoRow : OpenClaim := { program := "ytompdebingllmaa", sum := "0e4d5f67bd4ec3bc497238c4015ee31142d10f0de248802c9dc06865963e5da8", func := "loop.example/golayoctads/laws.FnWeights", spec := "fnWeights", apart := false, narrowed := true }
def FnWeightsUptoSaid : Prop := fnWeightsUptoRow.holds Try.pinned (OpenSpec.upto fnWeightsSpec)

/-- 'laws.FnExactCodeIn', WHERE WHAT IT READS IS OF BULK AT MOST 1048576: true; the input reads as it did. -/
def fnExactCodeInUptoRow : OpenClaim := { program := "ytompdebingllmaa", sum := "0e4d5f67bd4ec3bc497238c4015ee31142d10f0de248802c9dc06865963e5da8", func := "loop.example/golayoctads/laws.FnExactCodeIn", spec := "fnExactCodeIn", apart := false, narrowed := true }
def FnExactCodeInUptoSaid : Prop := fnExactCodeInUptoRow.holds Try.pinned (OpenSpec.upto fnExactCodeInSpec)

/-- 'laws.FnCodeOf', WHERE WHAT IT READS IS OF BULK AT MOST 1048576: true; the input reads as it did. -/
def fnCodeOfUptoRow : OpenClaim := { program := "ytompdebingllmaa", sum := "0e4d5f67bd4ec3bc497238c4015ee31142d10f0de248802c9dc06865963e5da8", func := "loop.example/golayoctads/laws.FnCodeOf", spec := "fnCodeOf", apart := false, narrowed := true }
def FnCodeOfUptoSaid : Prop := fnCodeOfUptoRow.holds Try.pinned (OpenSpec.upto fnCodeOfSpec)

/-- 'laws.FnExactCodeMessage', WHERE WHAT IT READS IS OF BULK AT MOST 1048576: true; the input reads as it did. -/
def fnExactCodeMessageUptoRow : OpenClaim := { program := "ytompdebingllmaa", sum := "0e4d5f67bd4ec3bc497238c4015ee31142d10f0de248802c9dc06865963e5da8", func := "loop.example/golayoctads/laws.FnExactCodeMessage", spec := "fnExactCodeMessage", apart := false, narrowed := true }
def FnExactCodeMessageUptoSaid : Prop := fnExactCodeMessageUptoRow.holds Try.pinned (OpenSpec.upto fnExactCodeMessageSpec)

/-- 'laws.FnCodeIn', WHERE WHAT IT READS IS OF BULK AT MOST 1048576: true; the input reads as it did. -/
def fnCodeInUptoRow : OpenClaim := { program := "ytompdebingllmaa", sum := "0e4d5f67bd4ec3bc497238c4015ee31142d10f0de248802c9dc06865963e5da8", func := "loop.example/golayoctads/laws.FnCodeIn", spec := "fnCodeIn", apart := false, narrowed := true }
def FnCodeInUptoSaid : Prop := fnCodeInUptoRow.holds Try.pinned (OpenSpec.upto fnCodeInSpec)

/-- 'laws.FnMessage', WHERE WHAT IT READS IS OF BULK AT MOST 1048576: true; the input reads as it did. -/
def fnMessageUptoRow : OpenClaim := { program := "ytompdebingllmaa", sum := "0e4d5f67bd4ec3bc497238c4015ee31142d10f0de248802c9dc06865963e5da8", func := "loop.example/golayoctads/laws.FnMessage", spec := "fnMessage", apart := false, narrowed := true }
def FnMessageUptoSaid : Prop := fnMessageUptoRow.holds Try.pinned (OpenSpec.upto fnMessageSpec)

/-- 'laws.FnMended', WHERE WHAT IT READS IS OF BULK AT MOST 1048576: true; the input reads as it did. -/
def fnMendedUptoRow : OpenClaim := { program := "ytompdebingllmaa", sum := "0e4d5f67bd4ec3bc497238c4015ee31142d10f0de248802c9dc06865963e5da8", func := "loop.example/golayoctads/laws.FnMended", spec := "fnMended", recurses := true, apart := false, narrowed := true }
def FnMendedUptoSaid : Prop := fnMendedUptoRow.holds Try.pinned (OpenSpec.upto fnMendedSpec)

/-- 'laws.FnExactCodeFar', WHERE WHAT IT READS IS OF BULK AT MOST 1048576: true; the input reads as it did. -/
def fnExactCodeFarUptoRow : OpenClaim := { program := "ytompdebingllmaa", sum := "0e4d5f67bd4ec3bc497238c4015ee31142d10f0de248802c9dc06865963e5da8", func := "loop.example/golayoctads/laws.FnExactCodeFar", spec := "fnExactCodeFar", recurses := true, apart := false, narrowed := true }
def FnExactCodeFarUptoSaid : Prop := fnExactCodeFarUptoRow.holds Try.pinned (OpenSpec.upto fnExactCodeFarSpec)

end Rows
end Go.Proofs.Ytompdebingllmaa
