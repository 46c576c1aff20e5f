/- Contracts of the drawings of digits. No condition beyond those stated. -/
import Derived.Test.YtahmophmdchiaaaOpen
namespace Go.Proofs.Ytahmophmdchiaaa
open Go.RowKit Gol
/-- two numbers are drawn -/
def DrawnD2 (W : World) (e : Ending) (w' : World) : Prop := ∃ x y : Int, 0 ≤ x ∧ x ≤ 4 ∧ -1 ≤ y ∧ y ≤ 4 ∧ e = .returned (.tuple #[.int .i64 x, .int .i64 y]) ∧ Below W.heap.size W w'
def DrawnD3 (W : World) (e : Ending) (w' : World) : Prop := ∃ x y z : Int, 0 ≤ x ∧ x ≤ 3 ∧ 0 ≤ y ∧ y ≤ 3 ∧ 0 ≤ z ∧ z ≤ 4 ∧ e = .returned (.tuple #[.int .i64 x, .int .i64 y, .int .i64 z]) ∧ Below W.heap.size W w'
theorem quo11 (x : Int) (h0 : 0 ≤ x) (h1 : x < 12) : ∃ t : Int, x / 11 = t ∧ 0 ≤ t ∧ t ≤ 1 := ⟨x / 11, rfl, by omega, by omega⟩
set_option maxHeartbeats 1000000 in
theorem DrawDigitAdd_any (a : Option Addr) (len cap : Nat) (z : List Int) (W : World) (h : IsRow .u8 W a len cap z) : Calls Try.prog 25 #[.slice a len cap] W (DrawnD2 W) := by
  have H := Lib.hid h
  clear h
  go_enter Try.func25, Try.ntmps25
  go_wp2_with fail
  refine (open_any _ _ _ z _ H.out).mono ?_
  rintro e w1 ⟨a1, l1, c1, rfl, h1, b1⟩
  go_wp2_with fail
  refine (pick_any _ a1 l1 c1 0 5 _ h1 (by omega) (by omega) (by omega)).mono ?_
  rintro e w2 ⟨x, x0, x1, rfl, h2, g2⟩
  go_wp2_with fail
  refine (pick_any _ a1 l1 c1 1 5 _ h2 (by omega) (by omega) (by omega)).mono ?_
  rintro e w3 ⟨y, y0, y1, rfl, h3, g3⟩
  go_wp2_with fail
  refine (pick_any _ a1 l1 c1 2 12 _ h3 (by omega) (by omega) (by omega)).mono ?_
  rintro e w4 ⟨u, u0, u1, rfl, h4, g4⟩
  go_wp2
  go_ret2
  exact ⟨x, y - u / 11, x0, by omega, by omega, by omega, rfl, b1.grown (grownBy_trans g2 (grownBy_trans g3 g4)) b1.size (fun k hk => by cases hk; exact Nat.le_refl _)⟩
theorem DrawDigitTimes_any (a : Option Addr) (len cap : Nat) (z : List Int) (W : World) (h : IsRow .u8 W a len cap z) : Calls Try.prog 30 #[.slice a len cap] W (DrawnD2 W) := by
  have H := Lib.hid h
  clear h
  go_enter Try.func30, Try.ntmps30
  go_wp2_with fail
  refine (DrawDigitAdd_any _ _ _ z _ H.out).mono ?_
  rintro e w2 ⟨x, y, hx0, hx1, hy0, hy1, rfl, hb⟩
  go_wp2
  go_ret2
  exact ⟨x, y, hx0, hx1, hy0, hy1, rfl, hb⟩
set_option maxHeartbeats 1000000 in
theorem DrawHexOf_any (a : Option Addr) (len cap : Nat) (z : List Int) (W : World) (h : IsRow .u8 W a len cap z) : Calls Try.prog 45 #[.slice a len cap] W (DrawnD3 W) := by
  have H := Lib.hid h
  clear h
  go_enter Try.func45, Try.ntmps45
  go_wp2_with fail
  refine (open_any _ _ _ z _ H.out).mono ?_
  rintro e w1 ⟨a1, l1, c1, rfl, h1, b1⟩
  go_wp2_with fail
  refine (pick_any _ a1 l1 c1 0 4 _ h1 (by omega) (by omega) (by omega)).mono ?_
  rintro e w2 ⟨x, x0, x1, rfl, h2, g2⟩
  go_wp2_with fail
  refine (pick_any _ a1 l1 c1 1 4 _ h2 (by omega) (by omega) (by omega)).mono ?_
  rintro e w3 ⟨y, y0, y1, rfl, h3, g3⟩
  go_wp2_with fail
  refine (pick_any _ a1 l1 c1 2 4 _ h3 (by omega) (by omega) (by omega)).mono ?_
  rintro e w4 ⟨v, v0, v1, rfl, h4, g4⟩
  go_wp2_with fail
  refine (pick_any _ a1 l1 c1 3 12 _ h4 (by omega) (by omega) (by omega)).mono ?_
  rintro e w5 ⟨u, u0, u1, rfl, h5, g5⟩
  go_wp2
  go_ret3
  exact ⟨x, y, v + u / 11, x0, by omega, y0, by omega, by omega, by omega, rfl, b1.grown (grownBy_trans g2 (grownBy_trans g3 (grownBy_trans g4 g5))) b1.size (fun k hk => by cases hk; exact Nat.le_refl _)⟩
end Go.Proofs.Ytahmophmdchiaaa
