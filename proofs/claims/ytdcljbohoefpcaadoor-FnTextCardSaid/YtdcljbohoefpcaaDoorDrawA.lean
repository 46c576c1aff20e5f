/- Contracts of the drawings of words for the laws of this seat. No condition beyond those stated. -/
import Derived.Test.YtdcljbohoefpcaaDoorDraw2
namespace Go.Proofs.YtdcljbohoefpcaaDoor
open Go.RowKit Gol
def DrawnW (W : World) (e : Ending) (w' : World) : Prop := ∃ x : Int, Near0 x ∧ e = .returned (.int .i64 x) ∧ Below W.heap.size W w'
def DrawnW2 (W : World) (e : Ending) (w' : World) : Prop := ∃ x y : Int, Near0 x ∧ Near0 y ∧ e = .returned (.tuple #[.int .i64 x, .int .i64 y]) ∧ Below W.heap.size W w'
end Go.Proofs.YtdcljbohoefpcaaDoor
