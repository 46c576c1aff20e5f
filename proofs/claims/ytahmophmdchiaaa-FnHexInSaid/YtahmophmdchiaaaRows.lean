/-
  No cell of these rows narrows 'for every input' (looked for: loops, veiled, ifaces, maps, wideKeys, modest, calm, conditions, laid).
  DERIVED. THE GIVEN ROWS OF THIS SEAT. 18 by the template 'for every input the law returns true; each argument reads behind the call as it read before'; 0 by the template 'total and deterministic' (their statements: YtahmophmdchiaaaTotals.lean).
  GIVEN WITH THE SEED: the statements are not yours to turn. If you find one false, say at which input.
  Laid BY PROGRAM, IN A SANDBOX (cutbox-rows.mjs): the forced cells as the released guide's own fill.sh prints them over the translation c25bc6a28fa2636f… (all of the seat's roots in one cut). By AI agents, Wed Nov 11 2026. No macro, syntax, notation, axiom, sorry.
-/
import Derived.Test.YtahmophmdchiaaaChecked
import GoSem.Claim
import GoSem.ClaimJoined
import GoSem.ClaimMapViews
import Derived.JoinedTies
import Derived.KernelRfl
namespace Go.Proofs.Ytahmophmdchiaaa
/- THE CELL 'sum', in the pinned program and in every row, IS THE sha256 OF THE DUMP (.gsa) THAT YtahmophmdchiaaaProg.lean LOADS. Nothing in Lean hashes anything: it is a label: what it is worth is what the hold of that sum in a sandbox is worth. -/
noncomputable def Try.pinned : Pinned := { name := "ytahmophmdchiaaa", sum := "c25bc6a28fa2636f5c8916d7cf889632f063c6f31b481ef3d0fdeba149485870", checked := Try.checked }
namespace Rows
def none {H : Type} : Left H := { results := [], args := [] }

/-- 'laws.FnExactDigitAdd': WHATEVER THE INPUT: true; the input reads as it did. -/
def fnExactDigitAddSpec : ChangeSpec := { name := "fnExactDigitAdd", fn := fun _ => fun
  | [d1, d2] => { results := [.lit (.bool true)], args := [d1, d2] }
  | _ => none }
def fnExactDigitAddRow : OpenClaim := { program := "ytahmophmdchiaaa", sum := "c25bc6a28fa2636f5c8916d7cf889632f063c6f31b481ef3d0fdeba149485870", func := "loop.example/golayoctads/laws.FnExactDigitAdd", spec := "fnExactDigitAdd", apart := false }
def FnExactDigitAddSaid : Prop := fnExactDigitAddRow.holds Try.pinned (OpenSpec.ofChange fnExactDigitAddSpec)

/-- ITS FALSE NEIGHBOUR: 'it returns false'. Refute it at one input. -/
def fnExactDigitAddWrong : ChangeSpec := { name := "fnExactDigitAdd", fn := fun _ => fun
  | [d1, d2] => { results := [.lit (.bool false)], args := [d1, d2] }
  | _ => none }
def FnExactDigitAddWrongFalsely : Prop := fnExactDigitAddRow.holds Try.pinned (OpenSpec.ofChange fnExactDigitAddWrong)

/-- 'laws.FnExactDigitTimes': WHATEVER THE INPUT: true; the input reads as it did. -/
def fnExactDigitTimesSpec : ChangeSpec := { name := "fnExactDigitTimes", fn := fun _ => fun
  | [d1, d2] => { results := [.lit (.bool true)], args := [d1, d2] }
  | _ => none }
def fnExactDigitTimesRow : OpenClaim := { program := "ytahmophmdchiaaa", sum := "c25bc6a28fa2636f5c8916d7cf889632f063c6f31b481ef3d0fdeba149485870", func := "loop.example/golayoctads/laws.FnExactDigitTimes", spec := "fnExactDigitTimes", apart := false }
def FnExactDigitTimesSaid : Prop := fnExactDigitTimesRow.holds Try.pinned (OpenSpec.ofChange fnExactDigitTimesSpec)

/-- ITS FALSE NEIGHBOUR: 'it returns false'. Refute it at one input. -/
def fnExactDigitTimesWrong : ChangeSpec := { name := "fnExactDigitTimes", fn := fun _ => fun
  | [d1, d2] => { results := [.lit (.bool false)], args := [d1, d2] }
  | _ => none }
def FnExactDigitTimesWrongFalsely : Prop := fnExactDigitTimesRow.holds Try.pinned (OpenSpec.ofChange fnExactDigitTimesWrong)

/-- 'laws.FnDigitAdd': WHATEVER THE INPUT: true; the input reads as it did. -/
def fnDigitAddSpec : ChangeSpec := { name := "fnDigitAdd", fn := fun _ => fun
  | [d] => { results := [.lit (.bool true)], args := [d] }
  | _ => none }
def fnDigitAddRow : OpenClaim := { program := "ytahmophmdchiaaa", sum := "c25bc6a28fa2636f5c8916d7cf889632f063c6f31b481ef3d0fdeba149485870", func := "loop.example/golayoctads/laws.FnDigitAdd", spec := "fnDigitAdd", apart := false }
def FnDigitAddSaid : Prop := fnDigitAddRow.holds Try.pinned (OpenSpec.ofChange fnDigitAddSpec)

/-- ITS FALSE NEIGHBOUR: 'it returns false'. Refute it at one input. -/
def fnDigitAddWrong : ChangeSpec := { name := "fnDigitAdd", fn := fun _ => fun
  | [d] => { results := [.lit (.bool false)], args := [d] }
  | _ => none }
def FnDigitAddWrongFalsely : Prop := fnDigitAddRow.holds Try.pinned (OpenSpec.ofChange fnDigitAddWrong)

/-- 'laws.FnExactHexWeight': WHATEVER THE INPUT: true; the input reads as it did. -/
def fnExactHexWeightSpec : ChangeSpec := { name := "fnExactHexWeight", fn := fun _ => fun
  | [d] => { results := [.lit (.bool true)], args := [d] }
  | _ => none }
def fnExactHexWeightRow : OpenClaim := { program := "ytahmophmdchiaaa", sum := "c25bc6a28fa2636f5c8916d7cf889632f063c6f31b481ef3d0fdeba149485870", func := "loop.example/golayoctads/laws.FnExactHexWeight", spec := "fnExactHexWeight", apart := false }
def FnExactHexWeightSaid : Prop := fnExactHexWeightRow.holds Try.pinned (OpenSpec.ofChange fnExactHexWeightSpec)

/-- ITS FALSE NEIGHBOUR: 'it returns false'. Refute it at one input. -/
def fnExactHexWeightWrong : ChangeSpec := { name := "fnExactHexWeight", fn := fun _ => fun
  | [d] => { results := [.lit (.bool false)], args := [d] }
  | _ => none }
def FnExactHexWeightWrongFalsely : Prop := fnExactHexWeightRow.holds Try.pinned (OpenSpec.ofChange fnExactHexWeightWrong)

/-- 'laws.FnDigitTimes': WHATEVER THE INPUT: true; the input reads as it did. -/
def fnDigitTimesSpec : ChangeSpec := { name := "fnDigitTimes", fn := fun _ => fun
  | [d] => { results := [.lit (.bool true)], args := [d] }
  | _ => none }
def fnDigitTimesRow : OpenClaim := { program := "ytahmophmdchiaaa", sum := "c25bc6a28fa2636f5c8916d7cf889632f063c6f31b481ef3d0fdeba149485870", func := "loop.example/golayoctads/laws.FnDigitTimes", spec := "fnDigitTimes", apart := false }
def FnDigitTimesSaid : Prop := fnDigitTimesRow.holds Try.pinned (OpenSpec.ofChange fnDigitTimesSpec)

/-- ITS FALSE NEIGHBOUR: 'it returns false'. Refute it at one input. -/
def fnDigitTimesWrong : ChangeSpec := { name := "fnDigitTimes", fn := fun _ => fun
  | [d] => { results := [.lit (.bool false)], args := [d] }
  | _ => none }
def FnDigitTimesWrongFalsely : Prop := fnDigitTimesRow.holds Try.pinned (OpenSpec.ofChange fnDigitTimesWrong)

/-- 'laws.FnExactHexOf': WHATEVER THE INPUT: true; the input reads as it did. -/
def fnExactHexOfSpec : ChangeSpec := { name := "fnExactHexOf", fn := fun _ => fun
  | [d1, d2, d3] => { results := [.lit (.bool true)], args := [d1, d2, d3] }
  | _ => none }
def fnExactHexOfRow : OpenClaim := { program := "ytahmophmdchiaaa", sum := "c25bc6a28fa2636f5c8916d7cf889632f063c6f31b481ef3d0fdeba149485870", func := "loop.example/golayoctads/laws.FnExactHexOf", spec := "fnExactHexOf", apart := false }
def FnExactHexOfSaid : Prop := fnExactHexOfRow.holds Try.pinned (OpenSpec.ofChange fnExactHexOfSpec)

/-- ITS FALSE NEIGHBOUR: 'it returns false'. Refute it at one input. -/
def fnExactHexOfWrong : ChangeSpec := { name := "fnExactHexOf", fn := fun _ => fun
  | [d1, d2, d3] => { results := [.lit (.bool false)], args := [d1, d2, d3] }
  | _ => none }
def FnExactHexOfWrongFalsely : Prop := fnExactHexOfRow.holds Try.pinned (OpenSpec.ofChange fnExactHexOfWrong)

/-- 'laws.FnExactHexInner': WHATEVER THE INPUT: true; the input reads as it did. -/
def fnExactHexInnerSpec : ChangeSpec := { name := "fnExactHexInner", fn := fun _ => fun
  | [d1, d2] => { results := [.lit (.bool true)], args := [d1, d2] }
  | _ => none }
def fnExactHexInnerRow : OpenClaim := { program := "ytahmophmdchiaaa", sum := "c25bc6a28fa2636f5c8916d7cf889632f063c6f31b481ef3d0fdeba149485870", func := "loop.example/golayoctads/laws.FnExactHexInner", spec := "fnExactHexInner", apart := false }
def FnExactHexInnerSaid : Prop := fnExactHexInnerRow.holds Try.pinned (OpenSpec.ofChange fnExactHexInnerSpec)

/-- ITS FALSE NEIGHBOUR: 'it returns false'. Refute it at one input. -/
def fnExactHexInnerWrong : ChangeSpec := { name := "fnExactHexInner", fn := fun _ => fun
  | [d1, d2] => { results := [.lit (.bool false)], args := [d1, d2] }
  | _ => none }
def FnExactHexInnerWrongFalsely : Prop := fnExactHexInnerRow.holds Try.pinned (OpenSpec.ofChange fnExactHexInnerWrong)

/-- 'laws.FnExactHexAdd': WHATEVER THE INPUT: true; the input reads as it did. -/
def fnExactHexAddSpec : ChangeSpec := { name := "fnExactHexAdd", fn := fun _ => fun
  | [d1, d2] => { results := [.lit (.bool true)], args := [d1, d2] }
  | _ => none }
def fnExactHexAddRow : OpenClaim := { program := "ytahmophmdchiaaa", sum := "c25bc6a28fa2636f5c8916d7cf889632f063c6f31b481ef3d0fdeba149485870", func := "loop.example/golayoctads/laws.FnExactHexAdd", spec := "fnExactHexAdd", apart := false }
def FnExactHexAddSaid : Prop := fnExactHexAddRow.holds Try.pinned (OpenSpec.ofChange fnExactHexAddSpec)

/-- ITS FALSE NEIGHBOUR: 'it returns false'. Refute it at one input. -/
def fnExactHexAddWrong : ChangeSpec := { name := "fnExactHexAdd", fn := fun _ => fun
  | [d1, d2] => { results := [.lit (.bool false)], args := [d1, d2] }
  | _ => none }
def FnExactHexAddWrongFalsely : Prop := fnExactHexAddRow.holds Try.pinned (OpenSpec.ofChange fnExactHexAddWrong)

/-- 'laws.FnExactHexTimes': WHATEVER THE INPUT: true; the input reads as it did. -/
def fnExactHexTimesSpec : ChangeSpec := { name := "fnExactHexTimes", fn := fun _ => fun
  | [d1, d2] => { results := [.lit (.bool true)], args := [d1, d2] }
  | _ => none }
def fnExactHexTimesRow : OpenClaim := { program := "ytahmophmdchiaaa", sum := "c25bc6a28fa2636f5c8916d7cf889632f063c6f31b481ef3d0fdeba149485870", func := "loop.example/golayoctads/laws.FnExactHexTimes", spec := "fnExactHexTimes", apart := false }
def FnExactHexTimesSaid : Prop := fnExactHexTimesRow.holds Try.pinned (OpenSpec.ofChange fnExactHexTimesSpec)

/-- ITS FALSE NEIGHBOUR: 'it returns false'. Refute it at one input. -/
def fnExactHexTimesWrong : ChangeSpec := { name := "fnExactHexTimes", fn := fun _ => fun
  | [d1, d2] => { results := [.lit (.bool false)], args := [d1, d2] }
  | _ => none }
def FnExactHexTimesWrongFalsely : Prop := fnExactHexTimesRow.holds Try.pinned (OpenSpec.ofChange fnExactHexTimesWrong)

/-- 'laws.FnExactHexIn': WHATEVER THE INPUT: true; the input reads as it did. -/
def fnExactHexInSpec : ChangeSpec := { name := "fnExactHexIn", fn := fun _ => fun
  | [d] => { results := [.lit (.bool true)], args := [d] }
  | _ => none }
def fnExactHexInRow : OpenClaim := { program := "ytahmophmdchiaaa", sum := "c25bc6a28fa2636f5c8916d7cf889632f063c6f31b481ef3d0fdeba149485870", func := "loop.example/golayoctads/laws.FnExactHexIn", spec := "fnExactHexIn", apart := false }
def FnExactHexInSaid : Prop := fnExactHexInRow.holds Try.pinned (OpenSpec.ofChange fnExactHexInSpec)

/-- ITS FALSE NEIGHBOUR: 'it returns false'. Refute it at one input. -/
def fnExactHexInWrong : ChangeSpec := { name := "fnExactHexIn", fn := fun _ => fun
  | [d] => { results := [.lit (.bool false)], args := [d] }
  | _ => none }
def FnExactHexInWrongFalsely : Prop := fnExactHexInRow.holds Try.pinned (OpenSpec.ofChange fnExactHexInWrong)

/-- 'laws.FnHexWeight': WHATEVER THE INPUT: true; the input reads as it did. -/
def fnHexWeightSpec : ChangeSpec := { name := "fnHexWeight", fn := fun _ => fun
  | [d] => { results := [.lit (.bool true)], args := [d] }
  | _ => none }
def fnHexWeightRow : OpenClaim := { program := "ytahmophmdchiaaa", sum := "c25bc6a28fa2636f5c8916d7cf889632f063c6f31b481ef3d0fdeba149485870", func := "loop.example/golayoctads/laws.FnHexWeight", spec := "fnHexWeight", apart := false }
def FnHexWeightSaid : Prop := fnHexWeightRow.holds Try.pinned (OpenSpec.ofChange fnHexWeightSpec)

/-- ITS FALSE NEIGHBOUR: 'it returns false'. Refute it at one input. -/
def fnHexWeightWrong : ChangeSpec := { name := "fnHexWeight", fn := fun _ => fun
  | [d] => { results := [.lit (.bool false)], args := [d] }
  | _ => none }
def FnHexWeightWrongFalsely : Prop := fnHexWeightRow.holds Try.pinned (OpenSpec.ofChange fnHexWeightWrong)

/-- 'laws.FnHexOf': WHATEVER THE INPUT: true; the input reads as it did. -/
def fnHexOfSpec : ChangeSpec := { name := "fnHexOf", fn := fun _ => fun
  | [d] => { results := [.lit (.bool true)], args := [d] }
  | _ => none }
def fnHexOfRow : OpenClaim := { program := "ytahmophmdchiaaa", sum := "c25bc6a28fa2636f5c8916d7cf889632f063c6f31b481ef3d0fdeba149485870", func := "loop.example/golayoctads/laws.FnHexOf", spec := "fnHexOf", apart := false }
def FnHexOfSaid : Prop := fnHexOfRow.holds Try.pinned (OpenSpec.ofChange fnHexOfSpec)

/-- ITS FALSE NEIGHBOUR: 'it returns false'. Refute it at one input. -/
def fnHexOfWrong : ChangeSpec := { name := "fnHexOf", fn := fun _ => fun
  | [d] => { results := [.lit (.bool false)], args := [d] }
  | _ => none }
def FnHexOfWrongFalsely : Prop := fnHexOfRow.holds Try.pinned (OpenSpec.ofChange fnHexOfWrong)

/-- 'laws.FnHexTimes': WHATEVER THE INPUT: true; the input reads as it did. -/
def fnHexTimesSpec : ChangeSpec := { name := "fnHexTimes", fn := fun _ => fun
  | [d] => { results := [.lit (.bool true)], args := [d] }
  | _ => none }
def fnHexTimesRow : OpenClaim := { program := "ytahmophmdchiaaa", sum := "c25bc6a28fa2636f5c8916d7cf889632f063c6f31b481ef3d0fdeba149485870", func := "loop.example/golayoctads/laws.FnHexTimes", spec := "fnHexTimes", apart := false }
def FnHexTimesSaid : Prop := fnHexTimesRow.holds Try.pinned (OpenSpec.ofChange fnHexTimesSpec)

/-- ITS FALSE NEIGHBOUR: 'it returns false'. Refute it at one input. -/
def fnHexTimesWrong : ChangeSpec := { name := "fnHexTimes", fn := fun _ => fun
  | [d] => { results := [.lit (.bool false)], args := [d] }
  | _ => none }
def FnHexTimesWrongFalsely : Prop := fnHexTimesRow.holds Try.pinned (OpenSpec.ofChange fnHexTimesWrong)

/-- 'laws.FnExactHexNear': WHATEVER THE INPUT: true; the input reads as it did. -/
def fnExactHexNearSpec : ChangeSpec := { name := "fnExactHexNear", fn := fun _ => fun
  | [d] => { results := [.lit (.bool true)], args := [d] }
  | _ => none }
def fnExactHexNearRow : OpenClaim := { program := "ytahmophmdchiaaa", sum := "c25bc6a28fa2636f5c8916d7cf889632f063c6f31b481ef3d0fdeba149485870", func := "loop.example/golayoctads/laws.FnExactHexNear", spec := "fnExactHexNear", apart := false }
def FnExactHexNearSaid : Prop := fnExactHexNearRow.holds Try.pinned (OpenSpec.ofChange fnExactHexNearSpec)

/-- ITS FALSE NEIGHBOUR: 'it returns false'. Refute it at one input. -/
def fnExactHexNearWrong : ChangeSpec := { name := "fnExactHexNear", fn := fun _ => fun
  | [d] => { results := [.lit (.bool false)], args := [d] }
  | _ => none }
def FnExactHexNearWrongFalsely : Prop := fnExactHexNearRow.holds Try.pinned (OpenSpec.ofChange fnExactHexNearWrong)

/-- 'laws.FnHexInner': WHATEVER THE INPUT: true; the input reads as it did. -/
def fnHexInnerSpec : ChangeSpec := { name := "fnHexInner", fn := fun _ => fun
  | [d] => { results := [.lit (.bool true)], args := [d] }
  | _ => none }
def fnHexInnerRow : OpenClaim := { program := "ytahmophmdchiaaa", sum := "c25bc6a28fa2636f5c8916d7cf889632f063c6f31b481ef3d0fdeba149485870", func := "loop.example/golayoctads/laws.FnHexInner", spec := "fnHexInner", apart := false }
def FnHexInnerSaid : Prop := fnHexInnerRow.holds Try.pinned (OpenSpec.ofChange fnHexInnerSpec)

/-- ITS FALSE NEIGHBOUR: 'it returns false'. Refute it at one input. -/
def fnHexInnerWrong : ChangeSpec := { name := "fnHexInner", fn := fun _ => fun
  | [d] => { results := [.lit (.bool false)], args := [d] }
  | _ => none }
def FnHexInnerWrongFalsely : Prop := fnHexInnerRow.holds Try.pinned (OpenSpec.ofChange fnHexInnerWrong)

/-- 'laws.FnHexIn': WHATEVER THE INPUT: true; the input reads as it did. -/
def fnHexInSpec : ChangeSpec := { name := "fnHexIn", fn := fun _ => fun
  | [d] => { results := [.lit (.bool true)], args := [d] }
  | _ => none }
def fnHexInRow : OpenClaim := { program := "ytahmophmdchiaaa", sum := "c25bc6a28fa2636f5c8916d7cf889632f063c6f31b481ef3d0fdeba149485870", func := "loop.example/golayoctads/laws.FnHexIn", spec := "fnHexIn", apart := false }
def FnHexInSaid : Prop := fnHexInRow.holds Try.pinned (OpenSpec.ofChange fnHexInSpec)

/-- ITS FALSE NEIGHBOUR: 'it returns false'. Refute it at one input. -/
def fnHexInWrong : ChangeSpec := { name := "fnHexIn", fn := fun _ => fun
  | [d] => { results := [.lit (.bool false)], args := [d] }
  | _ => none }
def FnHexInWrongFalsely : Prop := fnHexInRow.holds Try.pinned (OpenSpec.ofChange fnHexInWrong)

/-- 'laws.FnHexAdd': WHATEVER THE INPUT: true; the input reads as it did. -/
def fnHexAddSpec : ChangeSpec := { name := "fnHexAdd", fn := fun _ => fun
  | [d] => { results := [.lit (.bool true)], args := [d] }
  | _ => none }
def fnHexAddRow : OpenClaim := { program := "ytahmophmdchiaaa", sum := "c25bc6a28fa2636f5c8916d7cf889632f063c6f31b481ef3d0fdeba149485870", func := "loop.example/golayoctads/laws.FnHexAdd", spec := "fnHexAdd", apart := false }
def FnHexAddSaid : Prop := fnHexAddRow.holds Try.pinned (OpenSpec.ofChange fnHexAddSpec)

/-- ITS FALSE NEIGHBOUR: 'it returns false'. Refute it at one input. -/
def fnHexAddWrong : ChangeSpec := { name := "fnHexAdd", fn := fun _ => fun
  | [d] => { results := [.lit (.bool false)], args := [d] }
  | _ => none }
def FnHexAddWrongFalsely : Prop := fnHexAddRow.holds Try.pinned (OpenSpec.ofChange fnHexAddWrong)

/-- 'laws.FnHexNear': WHATEVER THE INPUT: true; the input reads as it did. -/
def fnHexNearSpec : ChangeSpec := { name := "fnHexNear", fn := fun _ => fun
  | [d] => { results := [.lit (.bool true)], args := [d] }
  | _ => none }
def fnHexNearRow : OpenClaim := { program := "ytahmophmdchiaaa", sum := "c25bc6a28fa2636f5c8916d7cf889632f063c6f31b481ef3d0fdeba149485870", func := "loop.example/golayoctads/laws.FnHexNear", spec := "fnHexNear", apart := false }
def FnHexNearSaid : Prop := fnHexNearRow.holds Try.pinned (OpenSpec.ofChange fnHexNearSpec)

/-- ITS FALSE NEIGHBOUR: 'it returns false'. Refute it at one input. -/
def fnHexNearWrong : ChangeSpec := { name := "fnHexNear", fn := fun _ => fun
  | [d] => { results := [.lit (.bool false)], args := [d] }
  | _ => none }
def FnHexNearWrongFalsely : Prop := fnHexNearRow.holds Try.pinned (OpenSpec.ofChange fnHexNearWrong)

/- THE SECOND FORM. 'bulk': how many values and letters a reading holds, each counted each time it is reached (what is shared counts as often as it is met; a slice's spare places count too). A statement '..UptoSaid' is the law's where the arguments, and the package variables that the reading takes, are together of bulk at most 1048576: NARROWER than '..Said'. Prove '..Said' where nothing that the law and all that it calls make is longer than what came in: it says more and counts as full. Else prove '..UptoSaid'. A law counts once. -/
mutual
def uptoBulk {H : Type} : DataW H → Nat
  | .lit (.string bytes) => bytes.length + 1
  | .lit _ => 1
  | .nil => 1
  | .ptr d => uptoBulk d + 1
  | .slice elems spare => uptoBulkAll elems + uptoBulkAll spare + 1
  | .agg parts => uptoBulkAll parts + 1
  | .iface _ d => uptoBulk d + 1
  | .map entries => uptoBulkEntries entries + 1
  | .held _ => 1
def uptoBulkAll {H : Type} : List (DataW H) → Nat
  | [] => 0
  | d :: r => uptoBulk d + uptoBulkAll r
def uptoBulkEntries {H : Type} : List (Lit × DataW H) → Nat
  | [] => 0
  | x :: r => uptoBulkEntry x + uptoBulkEntries r
def uptoBulkEntry {H : Type} : Lit × DataW H → Nat
  | (.string bytes, d) => bytes.length + uptoBulk d + 1
  | (_, d) => uptoBulk d + 1
 end
def uptoSmall : (H : Type) → List (DataW H) → Bool := fun _ ds => decide (uptoBulkAll ds ≤ 1048576)
def OpenSpec.upto (s : _root_.Go.ChangeSpec) : _root_.Go.OpenSpec := { _root_.Go.OpenSpec.ofChange s with cond := some uptoSmall }

/-- 'laws.FnExactDigitAdd', WHERE WHAT IT READS IS OF BULK AT MOST 1048576: true; the input reads as it did. -/
def fnExactDigitAddUptoRow : OpenClaim := { program := "ytahmophmdchiaaa", sum := "c25bc6a28fa2636f5c8916d7cf889632f063c6f31b481ef3d0fdeba149485870", func := "loop.example/golayoctads/laws.FnExactDigitAdd", spec := "fnExactDigitAdd", apart := false, narrowed := true }
def FnExactDigitAddUptoSaid : Prop := fnExactDigitAddUptoRow.holds Try.pinned (OpenSpec.upto fnExactDigitAddSpec)

/-- 'laws.FnExactDigitTimes', WHERE WHAT IT READS IS OF BULK AT MOST 1048576: true; the input reads as it did. -/
def fnExactDigitTimesUptoRow : OpenClaim := { program := "ytahmophmdchiaaa", sum := "c25bc6a28fa2636f5c8916d7cf889632f063c6f31b481ef3d0fdeba149485870", func := "loop.example/golayoctads/laws.FnExactDigitTimes", spec := "fnExactDigitTimes", apart := false, narrowed := true }
def FnExactDigitTimesUptoSaid : Prop := fnExactDigitTimesUptoRow.holds Try.pinned (OpenSpec.upto fnExactDigitTimesSpec)

/-- 'laws.FnDigitAdd', WHERE WHAT IT READS IS OF BULK AT MOST 1048576: true; the input reads as it did. -/
def fnDigitAddUptoRow : OpenClaim := { program := "ytahmophmdchiaaa", sum := "c25bc6a28fa2636f5c8916d7cf889632f063c6f31b481ef3d0fdeba149485870", func := "loop.example/golayoctads/laws.FnDigitAdd", spec := "fnDigitAdd", apart := false, narrowed := true }
def FnDigitAddUptoSaid : Prop := fnDigitAddUptoRow.holds Try.pinned (OpenSpec.upto fnDigitAddSpec)

/-- 'laws.FnExactHexWeight', WHERE WHAT IT READS IS OF BULK AT MOST 1048576: true; the input reads as it did. -/
def fnExactHexWeightUptoRow : OpenClaim := { program := "ytahmophmdchiaaa", sum := "c25bc6a28fa2636f5c8916d7cf889632f063c6f31b481ef3d0fdeba149485870", func := "loop.example/golayoctads/laws.FnExactHexWeight", spec := "fnExactHexWeight", apart := false, narrowed := true }
def FnExactHexWeightUptoSaid : Prop := fnExactHexWeightUptoRow.holds Try.pinned (OpenSpec.upto fnExactHexWeightSpec)

/-- 'laws.FnDigitTimes', WHERE WHAT IT READS IS OF BULK AT MOST 1048576: true; the input reads as it did. -/
def fnDigitTimesUptoRow : OpenClaim := { program := "ytahmophmdchiaaa", sum := "c25bc6a28fa2636f5c8916d7cf889632f063c6f31b481ef3d0fdeba149485870", func := "loop.example/golayoctads/laws.FnDigitTimes", spec := "fnDigitTimes", apart := false, narrowed := true }
def FnDigitTimesUptoSaid : Prop := fnDigitTimesUptoRow.holds Try.pinned (OpenSpec.upto fnDigitTimesSpec)

/-- 'laws.FnExactHexOf', WHERE WHAT IT READS IS OF BULK AT MOST 1048576: true; the input reads as it did. -/
def fnExactHexOfUptoRow : OpenClaim := { program := "ytahmophmdchiaaa", sum := "c25bc6a28fa2636f5c8916d7cf889632f063c6f31b481ef3d0fdeba149485870", func := "loop.example/golayoctads/laws.FnExactHexOf", spec := "fnExactHexOf", apart := false, narrowed := true }
def FnExactHexOfUptoSaid : Prop := fnExactHexOfUptoRow.holds Try.pinned (OpenSpec.upto fnExactHexOfSpec)

/-- 'laws.FnExactHexInner', WHERE WHAT IT READS IS OF BULK AT MOST 1048576: true; the input reads as it did. -/
def fnExactHexInnerUptoRow : OpenClaim := { program := "ytahmophmdchiaaa", sum := "c25bc6a28fa2636f5c8916d7cf889632f063c6f31b481ef3d0fdeba149485870", func := "loop.example/golayoctads/laws.FnExactHexInner", spec := "fnExactHexInner", apart := false, narrowed := true }
def FnExactHexInnerUptoSaid : Prop := fnExactHexInnerUptoRow.holds Try.pinned (OpenSpec.upto fnExactHexInnerSpec)

/-- 'laws.FnExactHexAdd', WHERE WHAT IT READS IS OF BULK AT MOST 1048576: true; the input reads as it did. -/
def fnExactHexAddUptoRow : OpenClaim := { program := "ytahmophmdchiaaa", sum := "c25bc6a28fa2636f5c8916d7cf889632f063c6f31b481ef3d0fdeba149485870", func := "loop.example/golayoctads/laws.FnExactHexAdd", spec := "fnExactHexAdd", apart := false, narrowed := true }
def FnExactHexAddUptoSaid : Prop := fnExactHexAddUptoRow.holds Try.pinned (OpenSpec.upto fnExactHexAddSpec)

/-- 'laws.FnExactHexTimes', WHERE WHAT IT READS IS OF BULK AT MOST 1048576: true; the input reads as it did. -/
def fnExactHexTimesUptoRow : OpenClaim := { program := "ytahmophmdchiaaa", sum := "c25bc6a28fa2636f5c8916d7cf889632f063c6f31b481ef3d0fdeba149485870", func := "loop.example/golayoctads/laws.FnExactHexTimes", spec := "fnExactHexTimes", apart := false, narrowed := true }
def FnExactHexTimesUptoSaid : Prop := fnExactHexTimesUptoRow.holds Try.pinned (OpenSpec.upto fnExactHexTimesSpec)

/-- 'laws.FnExactHexIn', WHERE WHAT IT READS IS OF BULK AT MOST 1048576: true; the input reads as it did. -/
def fnExactHexInUptoRow : OpenClaim := { program := "ytahmophmdchiaaa", sum := "c25bc6a28fa2636f5c8916d7cf889632f063c6f31b481ef3d0fdeba149485870", func := "loop.example/golayoctads/laws.FnExactHexIn", spec := "fnExactHexIn", apart := false, narrowed := true }
def FnExactHexInUptoSaid : Prop := fnExactHexInUptoRow.holds Try.pinned (OpenSpec.upto fnExactHexInSpec)

/-- 'laws.FnHexWeight', WHERE WHAT IT READS IS OF BULK AT MOST 1048576: true; the input reads as it did. -/
def fnHexWeightUptoRow : OpenClaim := { program := "ytahmophmdchiaaa", sum := "c25bc6a28fa2636f5c8916d7cf889632f063c6f31b481ef3d0fdeba149485870", func := "loop.example/golayoctads/laws.FnHexWeight", spec := "fnHexWeight", apart := false, narrowed := true }
def FnHexWeightUptoSaid : Prop := fnHexWeightUptoRow.holds Try.pinned (OpenSpec.upto fnHexWeightSpec)

/-- 'laws.FnHexOf', WHERE WHAT IT READS IS OF BULK AT MOST 1048576: true; the input reads as it did. -/
def fnHexOfUptoRow : OpenClaim := { program := "ytahmophmdchiaaa", sum := "c25bc6a28fa2636f5c8916d7cf889632f063c6f31b481ef3d0fdeba149485870", func := "loop.example/golayoctads/laws.FnHexOf", spec := "fnHexOf", apart := false, narrowed := true }
def FnHexOfUptoSaid : Prop := fnHexOfUptoRow.holds Try.pinned (OpenSpec.upto fnHexOfSpec)

/-- 'laws.FnHexTimes', WHERE WHAT IT READS IS OF BULK AT MOST 1048576: true; the input reads as it did. -/
def fnHexTimesUptoRow : OpenClaim := { program := "ytahmophmdchiaaa", sum := "c25bc6a28fa2636f5c8916d7cf889632f063c6f31b481ef3d0fdeba149485870", func := "loop.example/golayoctads/laws.FnHexTimes", spec := "fnHexTimes", apart := false, narrowed := true }
def FnHexTimesUptoSaid : Prop := fnHexTimesUptoRow.holds Try.pinned (OpenSpec.upto fnHexTimesSpec)

/-- 'laws.FnExactHexNear', WHERE WHAT IT READS IS OF BULK AT MOST 1048576: true; the input reads as it did. -/
def fnExactHexNearUptoRow : OpenClaim := { program := "ytahmophmdchiaaa", sum := "c25bc6a28fa2636f5c8916d7cf889632f063c6f31b481ef3d0fdeba149485870", func := "loop.example/golayoctads/laws.FnExactHexNear", spec := "fnExactHexNear", apart := false, narrowed := true }
def FnExactHexNearUptoSaid : Prop := fnExactHexNearUptoRow.holds Try.pinned (OpenSpec.upto fnExactHexNearSpec)

/-- 'laws.FnHexInner', WHERE WHAT IT READS IS OF BULK AT MOST 1048576: true; the input reads as it did. -/
def fnHexInnerUptoRow : OpenClaim := { program := "ytahmophmdchiaaa", sum := "c25bc6a28fa2636f5c8916d7cf889632f063c6f31b481ef3d0fdeba149485870", func := "loop.example/golayoctads/laws.FnHexInner", spec := "fnHexInner", apart := false, narrowed := true }
def FnHexInnerUptoSaid : Prop := fnHexInnerUptoRow.holds Try.pinned (OpenSpec.upto fnHexInnerSpec)

/-- 'laws.FnHexIn', WHERE WHAT IT READS IS OF BULK AT MOST 1048576: true; the input reads as it did. -/
def fnHexInUptoRow : OpenClaim := { program := "ytahmophmdchiaaa", sum := "c25bc6a28fa2636f5c8916d7cf889632f063c6f31b481ef3d0fdeba149485870", func := "loop.example/golayoctads/laws.FnHexIn", spec := "fnHexIn", apart := false, narrowed := true }
def FnHexInUptoSaid : Prop := fnHexInUptoRow.holds Try.pinned (OpenSpec.upto fnHexInSpec)

/-- 'laws.FnHexAdd', WHERE WHAT IT READS IS OF BULK AT MOST 1048576: true; the input reads as it did. -/
def fnHexAddUptoRow : OpenClaim := { program := "ytahmophmdchiaaa", sum := "c25bc6a28fa2636f5c8916d7cf889632f063c6f31b481ef3d0fdeba149485870", func := "loop.example/golayoctads/laws.FnHexAdd", spec := "fnHexAdd", apart := false, narrowed := true }
def FnHexAddUptoSaid : Prop := fnHexAddUptoRow.holds Try.pinned (OpenSpec.upto fnHexAddSpec)

/-- 'laws.FnHexNear', WHERE WHAT IT READS IS OF BULK AT MOST 1048576: true; the input reads as it did. -/
def fnHexNearUptoRow : OpenClaim := { program := "ytahmophmdchiaaa", sum := "c25bc6a28fa2636f5c8916d7cf889632f063c6f31b481ef3d0fdeba149485870", func := "loop.example/golayoctads/laws.FnHexNear", spec := "fnHexNear", apart := false, narrowed := true }
def FnHexNearUptoSaid : Prop := fnHexNearUptoRow.holds Try.pinned (OpenSpec.upto fnHexNearSpec)

end Rows
end Go.Proofs.Ytahmophmdchiaaa
