/- The contract of the reference's column of a score, a parity and a bit. No condition beyond those stated. -/
import Derived.Test.YtdcljbohoefpcaaDoorOwn
import Derived.Test.YtdcljbohoefpcaaDoorPlainC
namespace Go.Proofs.YtdcljbohoefpcaaDoor
open Go.RowKit Gol
set_option maxHeartbeats 4000000 in
theorem l3Fill_any (s p f : Int) (s0 : 0 ≤ s) (s1 : s < 4) (p0 : 0 ≤ p) (p1 : p < 2) (f0 : 0 ≤ f) (f1 : f < 2) (W : World) :
    Calls Tryd.prog 39 #[.int .i64 s, .int .i64 p, .int .i64 f] W fun e W' => e = .returned (.int .i64 (fill s.toNat p.toNat f.toNat)) ∧ Below W.heap.size W W' := by
  have cs : s = 0 ∨ s = 1 ∨ s = 2 ∨ s = 3 := by omega
  have cp : p = 0 ∨ p = 1 := by omega
  have cf : f = 0 ∨ f = 1 := by omega
  clear s0 s1 p0 p1 f0 f1
  rcases cp with rfl | rfl <;> rcases cf with rfl | rfl <;> rcases cs with rfl | rfl | rfl | rfl
  all_goals
    go_enter Tryd.func39, Tryd.ntmps39
    go_wp2
    go_ret
    exact ⟨ret_int (by decide), (Below.refl _ _).alloc (Nat.le_refl _) _⟩
end Go.Proofs.YtdcljbohoefpcaaDoor
