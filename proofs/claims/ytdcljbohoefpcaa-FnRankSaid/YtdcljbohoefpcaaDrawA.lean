/- Contracts of the drawings of words for the laws of this seat. No condition beyond those stated. -/
import Derived.Test.YtdcljbohoefpcaaDraw2
namespace Go.Proofs.Ytdcljbohoefpcaa
open Go.RowKit Gol
def DrawnW (W : World) (e : Ending) (w' : World) : Prop := ∃ x : Int, Near0 x ∧ e = .returned (.int .i64 x) ∧ Below W.heap.size W w'
def DrawnW2 (W : World) (e : Ending) (w' : World) : Prop := ∃ x y : Int, Near0 x ∧ Near0 y ∧ e = .returned (.tuple #[.int .i64 x, .int .i64 y]) ∧ Below W.heap.size W w'
theorem DrawWordValid_any (a : Option Addr) (len cap : Nat) (z : List Int) (W : World) (h : IsRow .u8 W a len cap z) : Calls Try.prog 41 #[.slice a len cap] W (DrawnW W) := by
  have H := Lib.hid h
  clear h
  go_enter Try.func41, Try.ntmps41
  go_wp2_with fail
  refine (open_any _ _ _ z _ H.out).mono ?_
  rintro e w1 ⟨a1, l1, c1, rfl, h1, b1⟩
  go_wp2_with fail
  refine (l91Word_any _ a1 l1 c1 0 _ h1 (by omega)).mono ?_
  rintro e w2 ⟨x, hx, rfl, _, g2⟩
  go_wp2
  go_ret
  exact ⟨x, hx, rfl, b1.grown g2 b1.size (fun k hk => by cases hk; exact Nat.le_refl _)⟩
theorem DrawWordWeight_any (a : Option Addr) (len cap : Nat) (z : List Int) (W : World) (h : IsRow .u8 W a len cap z) : Calls Try.prog 51 #[.slice a len cap] W (DrawnW W) := by
  have H := Lib.hid h
  clear h
  go_enter Try.func51, Try.ntmps51
  go_wp2_with fail
  refine (open_any _ _ _ z _ H.out).mono ?_
  rintro e w1 ⟨a1, l1, c1, rfl, h1, b1⟩
  go_wp2_with fail
  refine (l91Word_any _ a1 l1 c1 0 _ h1 (by omega)).mono ?_
  rintro e w2 ⟨x, hx, rfl, _, g2⟩
  go_wp2
  go_ret
  exact ⟨x, hx, rfl, b1.grown g2 b1.size (fun k hk => by cases hk; exact Nat.le_refl _)⟩
theorem DrawWordPlaces_any (a : Option Addr) (len cap : Nat) (z : List Int) (W : World) (h : IsRow .u8 W a len cap z) : Calls Try.prog 47 #[.slice a len cap] W (DrawnW W) := by
  have H := Lib.hid h
  clear h
  go_enter Try.func47, Try.ntmps47
  go_wp2_with fail
  refine (open_any _ _ _ z _ H.out).mono ?_
  rintro e w1 ⟨a1, l1, c1, rfl, h1, b1⟩
  go_wp2_with fail
  refine (l91Word_any _ a1 l1 c1 0 _ h1 (by omega)).mono ?_
  rintro e w2 ⟨x, hx, rfl, _, g2⟩
  go_wp2
  go_ret
  exact ⟨x, hx, rfl, b1.grown g2 b1.size (fun k hk => by cases hk; exact Nat.le_refl _)⟩
theorem DrawWordRank_any (a : Option Addr) (len cap : Nat) (z : List Int) (W : World) (h : IsRow .u8 W a len cap z) : Calls Try.prog 49 #[.slice a len cap] W (DrawnW W) := by
  have H := Lib.hid h
  clear h
  go_enter Try.func49, Try.ntmps49
  go_wp2_with fail
  refine (open_any _ _ _ z _ H.out).mono ?_
  rintro e w1 ⟨a1, l1, c1, rfl, h1, b1⟩
  go_wp2_with fail
  refine (l91Word_any _ a1 l1 c1 0 _ h1 (by omega)).mono ?_
  rintro e w2 ⟨x, hx, rfl, _, g2⟩
  go_wp2
  go_ret
  exact ⟨x, hx, rfl, b1.grown g2 b1.size (fun k hk => by cases hk; exact Nat.le_refl _)⟩
set_option maxHeartbeats 1000000 in
theorem l91Words_any (a : Option Addr) (len cap : Nat) (z : List Int) (W : World) (h : IsRow .u8 W a len cap z) : Calls Try.prog 65 #[.slice a len cap] W (DrawnW2 W) := by
  have H := Lib.hid h
  clear h
  go_enter Try.func65, Try.ntmps65
  go_wp2_with fail
  refine (open_any _ _ _ z _ H.out).mono ?_
  rintro e w1 ⟨a1, l1, c1, rfl, h1, b1⟩
  go_wp2_with fail
  refine (l91Word_any _ a1 l1 c1 0 _ h1 (by omega)).mono ?_
  rintro e w2 ⟨x, hx, rfl, ⟨k2, k2a, k2b, h2⟩, g2⟩
  go_wp2_with fail
  refine (l91Word_any _ a1 l1 c1 k2 _ h2 (by omega)).mono ?_
  rintro e w3 ⟨y, hy, rfl, _, g3⟩
  go_wp2
  go_ret2
  exact ⟨x, y, hx, hy, rfl, b1.grown (grownBy_trans g2 g3) b1.size (fun k hk => by cases hk; exact Nat.le_refl _)⟩
theorem DrawWordAdd_any (a : Option Addr) (len cap : Nat) (z : List Int) (W : World) (h : IsRow .u8 W a len cap z) : Calls Try.prog 50 #[.slice a len cap] W (DrawnW2 W) := by
  have H := Lib.hid h
  clear h
  go_enter Try.func50, Try.ntmps50
  go_wp2_with fail
  refine (l91Words_any _ _ _ z _ H.out).mono ?_
  rintro e w2 ⟨x, y, hx, hy, rfl, hb⟩
  go_wp2
  go_ret2
  exact ⟨x, y, hx, hy, rfl, hb⟩
theorem DrawWordMeet_any (a : Option Addr) (len cap : Nat) (z : List Int) (W : World) (h : IsRow .u8 W a len cap z) : Calls Try.prog 43 #[.slice a len cap] W (DrawnW2 W) := by
  have H := Lib.hid h
  clear h
  go_enter Try.func43, Try.ntmps43
  go_wp2_with fail
  refine (l91Words_any _ _ _ z _ H.out).mono ?_
  rintro e w2 ⟨x, y, hx, hy, rfl, hb⟩
  go_wp2
  go_ret2
  exact ⟨x, y, hx, hy, rfl, hb⟩
theorem DrawWordLess_any (a : Option Addr) (len cap : Nat) (z : List Int) (W : World) (h : IsRow .u8 W a len cap z) : Calls Try.prog 42 #[.slice a len cap] W (DrawnW2 W) := by
  have H := Lib.hid h
  clear h
  go_enter Try.func42, Try.ntmps42
  go_wp2_with fail
  refine (l91Words_any _ _ _ z _ H.out).mono ?_
  rintro e w2 ⟨x, y, hx, hy, rfl, hb⟩
  go_wp2
  go_ret2
  exact ⟨x, y, hx, hy, rfl, hb⟩
end Go.Proofs.Ytdcljbohoefpcaa
