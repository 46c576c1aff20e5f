/-
  DERIVED. GIVEN WITH THE SEED: THE CARDS: each row of YtdcljbohoefpcaaDoorRows.lean that lists a variable, with what it lists TIED to the program's text (the seventh form; the later family's looks); each row that meets fmt, with fmt's text TOLD by the authors' own Lean function (tested against real Go, not proved from fmt's source: count such statements apart). THE CARD IS WHAT COUNTS. Prove the row's statement (the work); the ties are given (YtdcljbohoefpcaaDoorTie.lean); close each card by the builder's one call (the guide's Derived/Test/ToyasCard.lean, 'card_holds'). Laid BY PROGRAM, IN A SANDBOX (cutbox-door.mjs). By AI agents, Wed Nov 11 2026. No macro, syntax, notation, axiom, sorry.
-/
import Derived.Test.YtdcljbohoefpcaaDoorRows
import GoSem.ClaimSeven
namespace Go.Proofs.YtdcljbohoefpcaaDoor
namespace Rows

/-- THE TIED CARD OF 'laws.FnExactWordRead'. -/
def fnExactWordReadCard : Claim7 := { stood := { row := fnExactWordReadRow, standIns := [], harness := (true, "9fdb74b4abd5e5653659ec2b5e0dbeb49d409f29d58f0c4b12f9deb2ad2b1d10"), looks := false }, kinds := [], alts := [], laidByText := true, laidKinds := [.data, .pinned], laidTests := true, laidLooks := .later }
def FnExactWordReadCardSaid : Prop := Claim7.holds Tryd.pinned (.plain (OpenSpec.ofChange fnExactWordReadSpec)) fnExactWordReadCard

/-- THE TIED CARD OF 'laws.FnText'. -/
def fnTextCard : Claim7 := { stood := { row := fnTextRow, standIns := [], harness := (true, "9fdb74b4abd5e5653659ec2b5e0dbeb49d409f29d58f0c4b12f9deb2ad2b1d10"), looks := false }, kinds := [], alts := [], laidByText := true, laidKinds := [.data, .pinned], laidTests := true, laidLooks := .later }
def FnTextCardSaid : Prop := Claim7.holds Tryd.pinned (.plain (OpenSpec.ofChange fnTextSpec)) fnTextCard

/-- THE TIED CARD OF 'laws.FnRead'. -/
def fnReadCard : Claim7 := { stood := { row := fnReadRow, standIns := [], harness := (true, "9fdb74b4abd5e5653659ec2b5e0dbeb49d409f29d58f0c4b12f9deb2ad2b1d10"), looks := false }, kinds := [], alts := [], laidByText := true, laidKinds := [.data, .pinned], laidTests := true, laidLooks := .later }
def FnReadCardSaid : Prop := Claim7.holds Tryd.pinned (.plain (OpenSpec.ofChange fnReadSpec)) fnReadCard

/-- THE SECOND FORM's CARD OF 'laws.FnExactWordRead'. -/
def fnExactWordReadUptoCard : Claim7 := { stood := { row := fnExactWordReadUptoRow, standIns := [], harness := (true, "9fdb74b4abd5e5653659ec2b5e0dbeb49d409f29d58f0c4b12f9deb2ad2b1d10"), looks := false }, kinds := [], alts := [], laidByText := true, laidKinds := [.data, .pinned], laidTests := true, laidLooks := .later }
def FnExactWordReadUptoCardSaid : Prop := Claim7.holds Tryd.pinned (.plain (OpenSpec.upto fnExactWordReadSpec)) fnExactWordReadUptoCard

/-- THE SECOND FORM's CARD OF 'laws.FnText'. -/
def fnTextUptoCard : Claim7 := { stood := { row := fnTextUptoRow, standIns := [], harness := (true, "9fdb74b4abd5e5653659ec2b5e0dbeb49d409f29d58f0c4b12f9deb2ad2b1d10"), looks := false }, kinds := [], alts := [], laidByText := true, laidKinds := [.data, .pinned], laidTests := true, laidLooks := .later }
def FnTextUptoCardSaid : Prop := Claim7.holds Tryd.pinned (.plain (OpenSpec.upto fnTextSpec)) fnTextUptoCard

/-- THE SECOND FORM's CARD OF 'laws.FnRead'. -/
def fnReadUptoCard : Claim7 := { stood := { row := fnReadUptoRow, standIns := [], harness := (true, "9fdb74b4abd5e5653659ec2b5e0dbeb49d409f29d58f0c4b12f9deb2ad2b1d10"), looks := false }, kinds := [], alts := [], laidByText := true, laidKinds := [.data, .pinned], laidTests := true, laidLooks := .later }
def FnReadUptoCardSaid : Prop := Claim7.holds Tryd.pinned (.plain (OpenSpec.upto fnReadSpec)) fnReadUptoCard
end Rows
end Go.Proofs.YtdcljbohoefpcaaDoor
