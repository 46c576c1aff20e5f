/-
  No cell of these rows narrows 'for every input' (looked for: loops, veiled, ifaces, maps, wideKeys, modest, calm, conditions, laid).
  DERIVED. THE GIVEN ROWS OF THIS SEAT. 18 by the template 'for every input the law returns true; each argument reads behind the call as it read before'; 0 by the template 'total and deterministic' (their statements: YtdcljbohoefpcaaTotals.lean).
  GIVEN WITH THE SEED: the statements are not yours to turn. If you find one false, say at which input.
  Laid BY PROGRAM, IN A SANDBOX (cutbox-rows.mjs): the forced cells as the released guide's own fill.sh prints them over the translation 264a3e6337e41261… (all of the seat's roots in one cut). By AI agents, Wed Nov 11 2026. No macro, syntax, notation, axiom, sorry.
-/
import Derived.Test.YtdcljbohoefpcaaChecked
import GoSem.Claim
import GoSem.ClaimJoined
import GoSem.ClaimMapViews
import Derived.JoinedTies
import Derived.KernelRfl
namespace Go.Proofs.Ytdcljbohoefpcaa
/- THE CELL 'sum', in the pinned program and in every row, IS THE sha256 OF THE DUMP (.gsa) THAT YtdcljbohoefpcaaProg.lean LOADS. Nothing in Lean hashes anything: it is a label: what it is worth is what the hold of that sum in a sandbox is worth. -/
noncomputable def Try.pinned : Pinned := { name := "ytdcljbohoefpcaa", sum := "264a3e6337e4126182cf0ed326d1a5ba23af0e4ab4c405bad710a0920a63e7a7", checked := Try.checked }
namespace Rows
def none {H : Type} : Left H := { results := [], args := [] }

/-- 'laws.FnExactConstants': WHATEVER THE INPUT: true; the input reads as it did. -/
def fnExactConstantsSpec : ChangeSpec := { name := "fnExactConstants", fn := fun _ => fun
  | [] => { results := [.lit (.bool true)], args := [] }
  | _ => none }
def fnExactConstantsRow : OpenClaim := { program := "ytdcljbohoefpcaa", sum := "264a3e6337e4126182cf0ed326d1a5ba23af0e4ab4c405bad710a0920a63e7a7", func := "loop.example/golayoctads/laws.FnExactConstants", spec := "fnExactConstants", apart := false }
def FnExactConstantsSaid : Prop := fnExactConstantsRow.holds Try.pinned (OpenSpec.ofChange fnExactConstantsSpec)

/-- ITS FALSE NEIGHBOUR: 'it returns false'. Refute it at one input. -/
def fnExactConstantsWrong : ChangeSpec := { name := "fnExactConstants", fn := fun _ => fun
  | [] => { results := [.lit (.bool false)], args := [] }
  | _ => none }
def FnExactConstantsWrongFalsely : Prop := fnExactConstantsRow.holds Try.pinned (OpenSpec.ofChange fnExactConstantsWrong)

/-- 'laws.FnExactWordValid': WHATEVER THE INPUT: true; the input reads as it did. -/
def fnExactWordValidSpec : ChangeSpec := { name := "fnExactWordValid", fn := fun _ => fun
  | [d] => { results := [.lit (.bool true)], args := [d] }
  | _ => none }
def fnExactWordValidRow : OpenClaim := { program := "ytdcljbohoefpcaa", sum := "264a3e6337e4126182cf0ed326d1a5ba23af0e4ab4c405bad710a0920a63e7a7", func := "loop.example/golayoctads/laws.FnExactWordValid", spec := "fnExactWordValid", apart := false }
def FnExactWordValidSaid : Prop := fnExactWordValidRow.holds Try.pinned (OpenSpec.ofChange fnExactWordValidSpec)

/-- ITS FALSE NEIGHBOUR: 'it returns false'. Refute it at one input. -/
def fnExactWordValidWrong : ChangeSpec := { name := "fnExactWordValid", fn := fun _ => fun
  | [d] => { results := [.lit (.bool false)], args := [d] }
  | _ => none }
def FnExactWordValidWrongFalsely : Prop := fnExactWordValidRow.holds Try.pinned (OpenSpec.ofChange fnExactWordValidWrong)

/-- 'laws.FnExactWordAdd': WHATEVER THE INPUT: true; the input reads as it did. -/
def fnExactWordAddSpec : ChangeSpec := { name := "fnExactWordAdd", fn := fun _ => fun
  | [d1, d2] => { results := [.lit (.bool true)], args := [d1, d2] }
  | _ => none }
def fnExactWordAddRow : OpenClaim := { program := "ytdcljbohoefpcaa", sum := "264a3e6337e4126182cf0ed326d1a5ba23af0e4ab4c405bad710a0920a63e7a7", func := "loop.example/golayoctads/laws.FnExactWordAdd", spec := "fnExactWordAdd", apart := false }
def FnExactWordAddSaid : Prop := fnExactWordAddRow.holds Try.pinned (OpenSpec.ofChange fnExactWordAddSpec)

/-- ITS FALSE NEIGHBOUR: 'it returns false'. Refute it at one input. -/
def fnExactWordAddWrong : ChangeSpec := { name := "fnExactWordAdd", fn := fun _ => fun
  | [d1, d2] => { results := [.lit (.bool false)], args := [d1, d2] }
  | _ => none }
def FnExactWordAddWrongFalsely : Prop := fnExactWordAddRow.holds Try.pinned (OpenSpec.ofChange fnExactWordAddWrong)

/-- 'laws.FnExactWordLess': WHATEVER THE INPUT: true; the input reads as it did. -/
def fnExactWordLessSpec : ChangeSpec := { name := "fnExactWordLess", fn := fun _ => fun
  | [d1, d2] => { results := [.lit (.bool true)], args := [d1, d2] }
  | _ => none }
def fnExactWordLessRow : OpenClaim := { program := "ytdcljbohoefpcaa", sum := "264a3e6337e4126182cf0ed326d1a5ba23af0e4ab4c405bad710a0920a63e7a7", func := "loop.example/golayoctads/laws.FnExactWordLess", spec := "fnExactWordLess", apart := false }
def FnExactWordLessSaid : Prop := fnExactWordLessRow.holds Try.pinned (OpenSpec.ofChange fnExactWordLessSpec)

/-- ITS FALSE NEIGHBOUR: 'it returns false'. Refute it at one input. -/
def fnExactWordLessWrong : ChangeSpec := { name := "fnExactWordLess", fn := fun _ => fun
  | [d1, d2] => { results := [.lit (.bool false)], args := [d1, d2] }
  | _ => none }
def FnExactWordLessWrongFalsely : Prop := fnExactWordLessRow.holds Try.pinned (OpenSpec.ofChange fnExactWordLessWrong)

/-- 'laws.FnExactWordMeet': WHATEVER THE INPUT: true; the input reads as it did. -/
def fnExactWordMeetSpec : ChangeSpec := { name := "fnExactWordMeet", fn := fun _ => fun
  | [d1, d2] => { results := [.lit (.bool true)], args := [d1, d2] }
  | _ => none }
def fnExactWordMeetRow : OpenClaim := { program := "ytdcljbohoefpcaa", sum := "264a3e6337e4126182cf0ed326d1a5ba23af0e4ab4c405bad710a0920a63e7a7", func := "loop.example/golayoctads/laws.FnExactWordMeet", spec := "fnExactWordMeet", apart := false }
def FnExactWordMeetSaid : Prop := fnExactWordMeetRow.holds Try.pinned (OpenSpec.ofChange fnExactWordMeetSpec)

/-- ITS FALSE NEIGHBOUR: 'it returns false'. Refute it at one input. -/
def fnExactWordMeetWrong : ChangeSpec := { name := "fnExactWordMeet", fn := fun _ => fun
  | [d1, d2] => { results := [.lit (.bool false)], args := [d1, d2] }
  | _ => none }
def FnExactWordMeetWrongFalsely : Prop := fnExactWordMeetRow.holds Try.pinned (OpenSpec.ofChange fnExactWordMeetWrong)

/-- 'laws.FnExactWordOf': WHATEVER THE INPUT: true; the input reads as it did. -/
def fnExactWordOfSpec : ChangeSpec := { name := "fnExactWordOf", fn := fun _ => fun
  | [d] => { results := [.lit (.bool true)], args := [d] }
  | _ => none }
def fnExactWordOfRow : OpenClaim := { program := "ytdcljbohoefpcaa", sum := "264a3e6337e4126182cf0ed326d1a5ba23af0e4ab4c405bad710a0920a63e7a7", func := "loop.example/golayoctads/laws.FnExactWordOf", spec := "fnExactWordOf", apart := false }
def FnExactWordOfSaid : Prop := fnExactWordOfRow.holds Try.pinned (OpenSpec.ofChange fnExactWordOfSpec)

/-- ITS FALSE NEIGHBOUR: 'it returns false'. Refute it at one input. -/
def fnExactWordOfWrong : ChangeSpec := { name := "fnExactWordOf", fn := fun _ => fun
  | [d] => { results := [.lit (.bool false)], args := [d] }
  | _ => none }
def FnExactWordOfWrongFalsely : Prop := fnExactWordOfRow.holds Try.pinned (OpenSpec.ofChange fnExactWordOfWrong)

/-- 'laws.FnExactWordPlaces': WHATEVER THE INPUT: true; the input reads as it did. -/
def fnExactWordPlacesSpec : ChangeSpec := { name := "fnExactWordPlaces", fn := fun _ => fun
  | [d] => { results := [.lit (.bool true)], args := [d] }
  | _ => none }
def fnExactWordPlacesRow : OpenClaim := { program := "ytdcljbohoefpcaa", sum := "264a3e6337e4126182cf0ed326d1a5ba23af0e4ab4c405bad710a0920a63e7a7", func := "loop.example/golayoctads/laws.FnExactWordPlaces", spec := "fnExactWordPlaces", apart := false }
def FnExactWordPlacesSaid : Prop := fnExactWordPlacesRow.holds Try.pinned (OpenSpec.ofChange fnExactWordPlacesSpec)

/-- ITS FALSE NEIGHBOUR: 'it returns false'. Refute it at one input. -/
def fnExactWordPlacesWrong : ChangeSpec := { name := "fnExactWordPlaces", fn := fun _ => fun
  | [d] => { results := [.lit (.bool false)], args := [d] }
  | _ => none }
def FnExactWordPlacesWrongFalsely : Prop := fnExactWordPlacesRow.holds Try.pinned (OpenSpec.ofChange fnExactWordPlacesWrong)

/-- 'laws.FnExactWordWeight': WHATEVER THE INPUT: true; the input reads as it did. -/
def fnExactWordWeightSpec : ChangeSpec := { name := "fnExactWordWeight", fn := fun _ => fun
  | [d] => { results := [.lit (.bool true)], args := [d] }
  | _ => none }
def fnExactWordWeightRow : OpenClaim := { program := "ytdcljbohoefpcaa", sum := "264a3e6337e4126182cf0ed326d1a5ba23af0e4ab4c405bad710a0920a63e7a7", func := "loop.example/golayoctads/laws.FnExactWordWeight", spec := "fnExactWordWeight", apart := false }
def FnExactWordWeightSaid : Prop := fnExactWordWeightRow.holds Try.pinned (OpenSpec.ofChange fnExactWordWeightSpec)

/-- ITS FALSE NEIGHBOUR: 'it returns false'. Refute it at one input. -/
def fnExactWordWeightWrong : ChangeSpec := { name := "fnExactWordWeight", fn := fun _ => fun
  | [d] => { results := [.lit (.bool false)], args := [d] }
  | _ => none }
def FnExactWordWeightWrongFalsely : Prop := fnExactWordWeightRow.holds Try.pinned (OpenSpec.ofChange fnExactWordWeightWrong)

/-- 'laws.FnExactWordRank': WHATEVER THE INPUT: true; the input reads as it did. -/
def fnExactWordRankSpec : ChangeSpec := { name := "fnExactWordRank", fn := fun _ => fun
  | [d] => { results := [.lit (.bool true)], args := [d] }
  | _ => none }
def fnExactWordRankRow : OpenClaim := { program := "ytdcljbohoefpcaa", sum := "264a3e6337e4126182cf0ed326d1a5ba23af0e4ab4c405bad710a0920a63e7a7", func := "loop.example/golayoctads/laws.FnExactWordRank", spec := "fnExactWordRank", apart := false }
def FnExactWordRankSaid : Prop := fnExactWordRankRow.holds Try.pinned (OpenSpec.ofChange fnExactWordRankSpec)

/-- ITS FALSE NEIGHBOUR: 'it returns false'. Refute it at one input. -/
def fnExactWordRankWrong : ChangeSpec := { name := "fnExactWordRank", fn := fun _ => fun
  | [d] => { results := [.lit (.bool false)], args := [d] }
  | _ => none }
def FnExactWordRankWrongFalsely : Prop := fnExactWordRankRow.holds Try.pinned (OpenSpec.ofChange fnExactWordRankWrong)

/-- 'laws.FnWord': WHATEVER THE INPUT: true; the input reads as it did. -/
def fnWordSpec : ChangeSpec := { name := "fnWord", fn := fun _ => fun
  | [d] => { results := [.lit (.bool true)], args := [d] }
  | _ => none }
def fnWordRow : OpenClaim := { program := "ytdcljbohoefpcaa", sum := "264a3e6337e4126182cf0ed326d1a5ba23af0e4ab4c405bad710a0920a63e7a7", func := "loop.example/golayoctads/laws.FnWord", spec := "fnWord", apart := false }
def FnWordSaid : Prop := fnWordRow.holds Try.pinned (OpenSpec.ofChange fnWordSpec)

/-- ITS FALSE NEIGHBOUR: 'it returns false'. Refute it at one input. -/
def fnWordWrong : ChangeSpec := { name := "fnWord", fn := fun _ => fun
  | [d] => { results := [.lit (.bool false)], args := [d] }
  | _ => none }
def FnWordWrongFalsely : Prop := fnWordRow.holds Try.pinned (OpenSpec.ofChange fnWordWrong)

/-- 'laws.FnLess': WHATEVER THE INPUT: true; the input reads as it did. -/
def fnLessSpec : ChangeSpec := { name := "fnLess", fn := fun _ => fun
  | [d] => { results := [.lit (.bool true)], args := [d] }
  | _ => none }
def fnLessRow : OpenClaim := { program := "ytdcljbohoefpcaa", sum := "264a3e6337e4126182cf0ed326d1a5ba23af0e4ab4c405bad710a0920a63e7a7", func := "loop.example/golayoctads/laws.FnLess", spec := "fnLess", apart := false }
def FnLessSaid : Prop := fnLessRow.holds Try.pinned (OpenSpec.ofChange fnLessSpec)

/-- ITS FALSE NEIGHBOUR: 'it returns false'. Refute it at one input. -/
def fnLessWrong : ChangeSpec := { name := "fnLess", fn := fun _ => fun
  | [d] => { results := [.lit (.bool false)], args := [d] }
  | _ => none }
def FnLessWrongFalsely : Prop := fnLessRow.holds Try.pinned (OpenSpec.ofChange fnLessWrong)

/-- 'laws.FnMeet': WHATEVER THE INPUT: true; the input reads as it did. -/
def fnMeetSpec : ChangeSpec := { name := "fnMeet", fn := fun _ => fun
  | [d] => { results := [.lit (.bool true)], args := [d] }
  | _ => none }
def fnMeetRow : OpenClaim := { program := "ytdcljbohoefpcaa", sum := "264a3e6337e4126182cf0ed326d1a5ba23af0e4ab4c405bad710a0920a63e7a7", func := "loop.example/golayoctads/laws.FnMeet", spec := "fnMeet", apart := false }
def FnMeetSaid : Prop := fnMeetRow.holds Try.pinned (OpenSpec.ofChange fnMeetSpec)

/-- ITS FALSE NEIGHBOUR: 'it returns false'. Refute it at one input. -/
def fnMeetWrong : ChangeSpec := { name := "fnMeet", fn := fun _ => fun
  | [d] => { results := [.lit (.bool false)], args := [d] }
  | _ => none }
def FnMeetWrongFalsely : Prop := fnMeetRow.holds Try.pinned (OpenSpec.ofChange fnMeetWrong)

/-- 'laws.FnExactWordText': WHATEVER THE INPUT: true; the input reads as it did. -/
def fnExactWordTextSpec : ChangeSpec := { name := "fnExactWordText", fn := fun _ => fun
  | [d] => { results := [.lit (.bool true)], args := [d] }
  | _ => none }
def fnExactWordTextRow : OpenClaim := { program := "ytdcljbohoefpcaa", sum := "264a3e6337e4126182cf0ed326d1a5ba23af0e4ab4c405bad710a0920a63e7a7", func := "loop.example/golayoctads/laws.FnExactWordText", spec := "fnExactWordText", inPlace := ["internal/abi.NoEscape", "internal/bytealg.MakeNoZero"], apart := false }
def FnExactWordTextSaid : Prop := fnExactWordTextRow.holds Try.pinned (OpenSpec.ofChange fnExactWordTextSpec)

/-- ITS FALSE NEIGHBOUR: 'it returns false'. Refute it at one input. -/
def fnExactWordTextWrong : ChangeSpec := { name := "fnExactWordText", fn := fun _ => fun
  | [d] => { results := [.lit (.bool false)], args := [d] }
  | _ => none }
def FnExactWordTextWrongFalsely : Prop := fnExactWordTextRow.holds Try.pinned (OpenSpec.ofChange fnExactWordTextWrong)

/-- 'laws.FnWordOf': WHATEVER THE INPUT: true; the input reads as it did. -/
def fnWordOfSpec : ChangeSpec := { name := "fnWordOf", fn := fun _ => fun
  | [d] => { results := [.lit (.bool true)], args := [d] }
  | _ => none }
def fnWordOfRow : OpenClaim := { program := "ytdcljbohoefpcaa", sum := "264a3e6337e4126182cf0ed326d1a5ba23af0e4ab4c405bad710a0920a63e7a7", func := "loop.example/golayoctads/laws.FnWordOf", spec := "fnWordOf", apart := false }
def FnWordOfSaid : Prop := fnWordOfRow.holds Try.pinned (OpenSpec.ofChange fnWordOfSpec)

/-- ITS FALSE NEIGHBOUR: 'it returns false'. Refute it at one input. -/
def fnWordOfWrong : ChangeSpec := { name := "fnWordOf", fn := fun _ => fun
  | [d] => { results := [.lit (.bool false)], args := [d] }
  | _ => none }
def FnWordOfWrongFalsely : Prop := fnWordOfRow.holds Try.pinned (OpenSpec.ofChange fnWordOfWrong)

/-- 'laws.FnPlaces': WHATEVER THE INPUT: true; the input reads as it did. -/
def fnPlacesSpec : ChangeSpec := { name := "fnPlaces", fn := fun _ => fun
  | [d] => { results := [.lit (.bool true)], args := [d] }
  | _ => none }
def fnPlacesRow : OpenClaim := { program := "ytdcljbohoefpcaa", sum := "264a3e6337e4126182cf0ed326d1a5ba23af0e4ab4c405bad710a0920a63e7a7", func := "loop.example/golayoctads/laws.FnPlaces", spec := "fnPlaces", apart := false }
def FnPlacesSaid : Prop := fnPlacesRow.holds Try.pinned (OpenSpec.ofChange fnPlacesSpec)

/-- ITS FALSE NEIGHBOUR: 'it returns false'. Refute it at one input. -/
def fnPlacesWrong : ChangeSpec := { name := "fnPlaces", fn := fun _ => fun
  | [d] => { results := [.lit (.bool false)], args := [d] }
  | _ => none }
def FnPlacesWrongFalsely : Prop := fnPlacesRow.holds Try.pinned (OpenSpec.ofChange fnPlacesWrong)

/-- 'laws.FnRank': WHATEVER THE INPUT: true; the input reads as it did. -/
def fnRankSpec : ChangeSpec := { name := "fnRank", fn := fun _ => fun
  | [d] => { results := [.lit (.bool true)], args := [d] }
  | _ => none }
def fnRankRow : OpenClaim := { program := "ytdcljbohoefpcaa", sum := "264a3e6337e4126182cf0ed326d1a5ba23af0e4ab4c405bad710a0920a63e7a7", func := "loop.example/golayoctads/laws.FnRank", spec := "fnRank", apart := false }
def FnRankSaid : Prop := fnRankRow.holds Try.pinned (OpenSpec.ofChange fnRankSpec)

/-- ITS FALSE NEIGHBOUR: 'it returns false'. Refute it at one input. -/
def fnRankWrong : ChangeSpec := { name := "fnRank", fn := fun _ => fun
  | [d] => { results := [.lit (.bool false)], args := [d] }
  | _ => none }
def FnRankWrongFalsely : Prop := fnRankRow.holds Try.pinned (OpenSpec.ofChange fnRankWrong)

/-- 'laws.FnAdd': WHATEVER THE INPUT: true; the input reads as it did. -/
def fnAddSpec : ChangeSpec := { name := "fnAdd", fn := fun _ => fun
  | [d] => { results := [.lit (.bool true)], args := [d] }
  | _ => none }
def fnAddRow : OpenClaim := { program := "ytdcljbohoefpcaa", sum := "264a3e6337e4126182cf0ed326d1a5ba23af0e4ab4c405bad710a0920a63e7a7", func := "loop.example/golayoctads/laws.FnAdd", spec := "fnAdd", apart := false }
def FnAddSaid : Prop := fnAddRow.holds Try.pinned (OpenSpec.ofChange fnAddSpec)

/-- ITS FALSE NEIGHBOUR: 'it returns false'. Refute it at one input. -/
def fnAddWrong : ChangeSpec := { name := "fnAdd", fn := fun _ => fun
  | [d] => { results := [.lit (.bool false)], args := [d] }
  | _ => none }
def FnAddWrongFalsely : Prop := fnAddRow.holds Try.pinned (OpenSpec.ofChange fnAddWrong)

/-- 'laws.FnWeight': WHATEVER THE INPUT: true; the input reads as it did. -/
def fnWeightSpec : ChangeSpec := { name := "fnWeight", fn := fun _ => fun
  | [d] => { results := [.lit (.bool true)], args := [d] }
  | _ => none }
def fnWeightRow : OpenClaim := { program := "ytdcljbohoefpcaa", sum := "264a3e6337e4126182cf0ed326d1a5ba23af0e4ab4c405bad710a0920a63e7a7", func := "loop.example/golayoctads/laws.FnWeight", spec := "fnWeight", apart := false }
def FnWeightSaid : Prop := fnWeightRow.holds Try.pinned (OpenSpec.ofChange fnWeightSpec)

/-- ITS FALSE NEIGHBOUR: 'it returns false'. Refute it at one input. -/
def fnWeightWrong : ChangeSpec := { name := "fnWeight", fn := fun _ => fun
  | [d] => { results := [.lit (.bool false)], args := [d] }
  | _ => none }
def FnWeightWrongFalsely : Prop := fnWeightRow.holds Try.pinned (OpenSpec.ofChange fnWeightWrong)

/- THE SECOND FORM. 'bulk': how many values and letters a reading holds, each counted each time it is reached (what is shared counts as often as it is met; a slice's spare places count too). A statement '..UptoSaid' is the law's where the arguments, and the package variables that the reading takes, are together of bulk at most 1048576: NARROWER than '..Said'. Prove '..Said' where nothing that the law and all that it calls make is longer than what came in: it says more and counts as full. Else prove '..UptoSaid'. A law counts once. -/
mutual
def uptoBulk {H : Type} : DataW H → Nat
  | .lit (.string bytes) => bytes.length + 1
  | .lit _ => 1
  | .nil => 1
  | .ptr d => uptoBulk d + 1
  | .slice elems spare => uptoBulkAll elems + uptoBulkAll spare + 1
  | .agg parts => uptoBulkAll parts + 1
  | .iface _ d => uptoBulk d + 1
  | .map entries => uptoBulkEntries entries + 1
  | .held _ => 1
def uptoBulkAll {H : Type} : List (DataW H) → Nat
  | [] => 0
  | d :: r => uptoBulk d + uptoBulkAll r
def uptoBulkEntries {H : Type} : List (Lit × DataW H) → Nat
  | [] => 0
  | x :: r => uptoBulkEntry x + uptoBulkEntries r
def uptoBulkEntry {H : Type} : Lit × DataW H → Nat
  | (.string bytes, d) => bytes.length + uptoBulk d + 1
  | (_, d) => uptoBulk d + 1
 end
def uptoSmall : (H : Type) → List (DataW H) → Bool := fun _ ds => decide (uptoBulkAll ds ≤ 1048576)
def OpenSpec.upto (s : _root_.Go.ChangeSpec) : _root_.Go.OpenSpec := { _root_.Go.OpenSpec.ofChange s with cond := some uptoSmall }

/-- 'laws.FnExactConstants', WHERE WHAT IT READS IS OF BULK AT MOST 1048576: true; the input reads as it did. -/
def fnExactConstantsUptoRow : OpenClaim := { program := "ytdcljbohoefpcaa", sum := "264a3e6337e4126182cf0ed326d1a5ba23af0e4ab4c405bad710a0920a63e7a7", func := "loop.example/golayoctads/laws.FnExactConstants", spec := "fnExactConstants", apart := false, narrowed := true }
def FnExactConstantsUptoSaid : Prop := fnExactConstantsUptoRow.holds Try.pinned (OpenSpec.upto fnExactConstantsSpec)

/-- 'laws.FnExactWordValid', WHERE WHAT IT READS IS OF BULK AT MOST 1048576: true; the input reads as it did. -/
def fnExactWordValidUptoRow : OpenClaim := { program := "ytdcljbohoefpcaa", sum := "264a3e6337e4126182cf0ed326d1a5ba23af0e4ab4c405bad710a0920a63e7a7", func := "loop.example/golayoctads/laws.FnExactWordValid", spec := "fnExactWordValid", apart := false, narrowed := true }
def FnExactWordValidUptoSaid : Prop := fnExactWordValidUptoRow.holds Try.pinned (OpenSpec.upto fnExactWordValidSpec)

/-- 'laws.FnExactWordAdd', WHERE WHAT IT READS IS OF BULK AT MOST 1048576: true; the input reads as it did. -/
def fnExactWordAddUptoRow : OpenClaim := { program := "ytdcljbohoefpcaa", sum := "264a3e6337e4126182cf0ed326d1a5ba23af0e4ab4c405bad710a0920a63e7a7", func := "loop.example/golayoctads/laws.FnExactWordAdd", spec := "fnExactWordAdd", apart := false, narrowed := true }
def FnExactWordAddUptoSaid : Prop := fnExactWordAddUptoRow.holds Try.pinned (OpenSpec.upto fnExactWordAddSpec)

/-- 'laws.FnExactWordLess', WHERE WHAT IT READS IS OF BULK AT MOST 1048576: true; the input reads as it did. -/
def fnExactWordLessUptoRow : OpenClaim := { program := "ytdcljbohoefpcaa", sum := "264a3e6337e4126182cf0ed326d1a5ba23af0e4ab4c405bad710a0920a63e7a7", func := "loop.example/golayoctads/laws.FnExactWordLess", spec := "fnExactWordLess", apart := false, narrowed := true }
def FnExactWordLessUptoSaid : Prop := fnExactWordLessUptoRow.holds Try.pinned (OpenSpec.upto fnExactWordLessSpec)

/-- 'laws.FnExactWordMeet', WHERE WHAT IT READS IS OF BULK AT MOST 1048576: true; the input reads as it did. -/
def fnExactWordMeetUptoRow : OpenClaim := { program := "ytdcljbohoefpcaa", sum := "264a3e6337e4126182cf0ed326d1a5ba23af0e4ab4c405bad710a0920a63e7a7", func := "loop.example/golayoctads/laws.FnExactWordMeet", spec := "fnExactWordMeet", apart := false, narrowed := true }
def FnExactWordMeetUptoSaid : Prop := fnExactWordMeetUptoRow.holds Try.pinned (OpenSpec.upto fnExactWordMeetSpec)

/-- 'laws.FnExactWordOf', WHERE WHAT IT READS IS OF BULK AT MOST 1048576: true; the input reads as it did. -/
def fnExactWordOfUptoRow : OpenClaim := { program := "ytdcljbohoefpcaa", sum := "264a3e6337e4126182cf0ed326d1a5ba23af0e4ab4c405bad710a0920a63e7a7", func := "loop.example/golayoctads/laws.FnExactWordOf", spec := "fnExactWordOf", apart := false, narrowed := true }
def FnExactWordOfUptoSaid : Prop := fnExactWordOfUptoRow.holds Try.pinned (OpenSpec.upto fnExactWordOfSpec)

/-- 'laws.FnExactWordPlaces', WHERE WHAT IT READS IS OF BULK AT MOST 1048576: true; the input reads as it did. -/
def fnExactWordPlacesUptoRow : OpenClaim := { program := "ytdcljbohoefpcaa", sum := "264a3e6337e4126182cf0ed326d1a5ba23af0e4ab4c405bad710a0920a63e7a7", func := "loop.example/golayoctads/laws.FnExactWordPlaces", spec := "fnExactWordPlaces", apart := false, narrowed := true }
def FnExactWordPlacesUptoSaid : Prop := fnExactWordPlacesUptoRow.holds Try.pinned (OpenSpec.upto fnExactWordPlacesSpec)

/-- 'laws.FnExactWordWeight', WHERE WHAT IT READS IS OF BULK AT MOST 1048576: true; the input reads as it did. -/
def fnExactWordWeightUptoRow : OpenClaim := { program := "ytdcljbohoefpcaa", sum := "264a3e6337e4126182cf0ed326d1a5ba23af0e4ab4c405bad710a0920a63e7a7", func := "loop.example/golayoctads/laws.FnExactWordWeight", spec := "fnExactWordWeight", apart := false, narrowed := true }
def FnExactWordWeightUptoSaid : Prop := fnExactWordWeightUptoRow.holds Try.pinned (OpenSpec.upto fnExactWordWeightSpec)

/-- 'laws.FnExactWordRank', WHERE WHAT IT READS IS OF BULK AT MOST 1048576: true; the input reads as it did. -/
def fnExactWordRankUptoRow : OpenClaim := { program := "ytdcljbohoefpcaa", sum := "264a3e6337e4126182cf0ed326d1a5ba23af0e4ab4c405bad710a0920a63e7a7", func := "loop.example/golayoctads/laws.FnExactWordRank", spec := "fnExactWordRank", apart := false, narrowed := true }
def FnExactWordRankUptoSaid : Prop := fnExactWordRankUptoRow.holds Try.pinned (OpenSpec.upto fnExactWordRankSpec)

/-- 'laws.FnWord', WHERE WHAT IT READS IS OF BULK AT MOST 1048576: true; the input reads as it did. -/
def fnWordUptoRow : OpenClaim := { program := "ytdcljbohoefpcaa", sum := "264a3e6337e4126182cf0ed326d1a5ba23af0e4ab4c405bad710a0920a63e7a7", func := "loop.example/golayoctads/laws.FnWord", spec := "fnWord", apart := false, narrowed := true }
def FnWordUptoSaid : Prop := fnWordUptoRow.holds Try.pinned (OpenSpec.upto fnWordSpec)

/-- 'laws.FnLess', WHERE WHAT IT READS IS OF BULK AT MOST 1048576: true; the input reads as it did. -/
def fnLessUptoRow : OpenClaim := { program := "ytdcljbohoefpcaa", sum := "264a3e6337e4126182cf0ed326d1a5ba23af0e4ab4c405bad710a0920a63e7a7", func := "loop.example/golayoctads/laws.FnLess", spec := "fnLess", apart := false, narrowed := true }
def FnLessUptoSaid : Prop := fnLessUptoRow.holds Try.pinned (OpenSpec.upto fnLessSpec)

/-- 'laws.FnMeet', WHERE WHAT IT READS IS OF BULK AT MOST 1048576: true; the input reads as it did. -/
def fnMeetUptoRow : OpenClaim := { program := "ytdcljbohoefpcaa", sum := "264a3e6337e4126182cf0ed326d1a5ba23af0e4ab4c405bad710a0920a63e7a7", func := "loop.example/golayoctads/laws.FnMeet", spec := "fnMeet", apart := false, narrowed := true }
def FnMeetUptoSaid : Prop := fnMeetUptoRow.holds Try.pinned (OpenSpec.upto fnMeetSpec)

/-- 'laws.FnExactWordText', WHERE WHAT IT READS IS OF BULK AT MOST 1048576: true; the input reads as it did. -/
def fnExactWordTextUptoRow : OpenClaim := { program := "ytdcljbohoefpcaa", sum := "264a3e6337e4126182cf0ed326d1a5ba23af0e4ab4c405bad710a0920a63e7a7", func := "loop.example/golayoctads/laws.FnExactWordText", spec := "fnExactWordText", inPlace := ["internal/abi.NoEscape", "internal/bytealg.MakeNoZero"], apart := false, narrowed := true }
def FnExactWordTextUptoSaid : Prop := fnExactWordTextUptoRow.holds Try.pinned (OpenSpec.upto fnExactWordTextSpec)

/-- 'laws.FnWordOf', WHERE WHAT IT READS IS OF BULK AT MOST 1048576: true; the input reads as it did. -/
def fnWordOfUptoRow : OpenClaim := { program := "ytdcljbohoefpcaa", sum := "264a3e6337e4126182cf0ed326d1a5ba23af0e4ab4c405bad710a0920a63e7a7", func := "loop.example/golayoctads/laws.FnWordOf", spec := "fnWordOf", apart := false, narrowed := true }
def FnWordOfUptoSaid : Prop := fnWordOfUptoRow.holds Try.pinned (OpenSpec.upto fnWordOfSpec)

/-- 'laws.FnPlaces', WHERE WHAT IT READS IS OF BULK AT MOST 1048576: true; the input reads as it did. -/
def fnPlacesUptoRow : OpenClaim := { program := "ytdcljbohoefpcaa", sum := "264a3e6337e4126182cf0ed326d1a5ba23af0e4ab4c405bad710a0920a63e7a7", func := "loop.example/golayoctads/laws.FnPlaces", spec := "fnPlaces", apart := false, narrowed := true }
def FnPlacesUptoSaid : Prop := fnPlacesUptoRow.holds Try.pinned (OpenSpec.upto fnPlacesSpec)

/-- 'laws.FnRank', WHERE WHAT IT READS IS OF BULK AT MOST 1048576: true; the input reads as it did. -/
def fnRankUptoRow : OpenClaim := { program := "ytdcljbohoefpcaa", sum := "264a3e6337e4126182cf0ed326d1a5ba23af0e4ab4c405bad710a0920a63e7a7", func := "loop.example/golayoctads/laws.FnRank", spec := "fnRank", apart := false, narrowed := true }
def FnRankUptoSaid : Prop := fnRankUptoRow.holds Try.pinned (OpenSpec.upto fnRankSpec)

/-- 'laws.FnAdd', WHERE WHAT IT READS IS OF BULK AT MOST 1048576: true; the input reads as it did. -/
def fnAddUptoRow : OpenClaim := { program := "ytdcljbohoefpcaa", sum := "264a3e6337e4126182cf0ed326d1a5ba23af0e4ab4c405bad710a0920a63e7a7", func := "loop.example/golayoctads/laws.FnAdd", spec := "fnAdd", apart := false, narrowed := true }
def FnAddUptoSaid : Prop := fnAddUptoRow.holds Try.pinned (OpenSpec.upto fnAddSpec)

/-- 'laws.FnWeight', WHERE WHAT IT READS IS OF BULK AT MOST 1048576: true; the input reads as it did. -/
def fnWeightUptoRow : OpenClaim := { program := "ytdcljbohoefpcaa", sum := "264a3e6337e4126182cf0ed326d1a5ba23af0e4ab4c405bad710a0920a63e7a7", func := "loop.example/golayoctads/laws.FnWeight", spec := "fnWeight", apart := false, narrowed := true }
def FnWeightUptoSaid : Prop := fnWeightUptoRow.holds Try.pinned (OpenSpec.upto fnWeightSpec)

end Rows
end Go.Proofs.Ytdcljbohoefpcaa
