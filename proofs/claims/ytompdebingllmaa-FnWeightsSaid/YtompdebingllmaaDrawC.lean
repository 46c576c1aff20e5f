/- Contracts of the drawings for the laws on the code, and of sums and weights of words. No condition beyond those stated. -/
import Derived.Test.YtompdebingllmaaDraw2
import Derived.Test.YtompdebingllmaaWords1
namespace Go.Proofs.Ytompdebingllmaa
open Go.RowKit Gol
def DrawnW (W : World) (e : Ending) (w' : World) : Prop := ∃ x : Int, Near0 x ∧ e = .returned (.int .i64 x) ∧ Below W.heap.size W w'
def DrawnM (W : World) (e : Ending) (w' : World) : Prop := ∃ x : Int, 0 ≤ x ∧ x ≤ 8191 ∧ e = .returned (.int .i64 x) ∧ Below W.heap.size W w'
/-- two messages, low and high -/
def DrawnMM (W : World) (e : Ending) (w' : World) : Prop := ∃ x y : Int, 0 ≤ x ∧ x ≤ 4032 ∧ x - 400 ≤ y ∧ y ≤ 4400 ∧ e = .returned (.tuple #[.int .i64 x, .int .i64 y]) ∧ Below W.heap.size W w'
theorem near_enc {x : Int} (h : IsEnc x) : Near0 x := by
  have := h.word
  exact ⟨by have := this.1; omega, by have := this.2; omega⟩
theorem quo19 (x : Int) (h0 : 0 ≤ x) (h1 : x < 20) : ∃ t : Int, x / 19 = t ∧ 0 ≤ t ∧ t ≤ 1 := ⟨x / 19, rfl, by omega, by omega⟩
set_option maxHeartbeats 1000000 in
theorem DrawCodeScores_any (a : Option Addr) (len cap : Nat) (z : List Int) (W : World) (h : IsRow .u8 W a len cap z) : Calls Try.prog 34 #[.slice a len cap] W (DrawnW W) := by
  have H := Lib.hid h
  clear h
  go_enter Try.func34, Try.ntmps34
  go_wp2_with fail
  refine (open_any _ _ _ z _ H.out).mono ?_
  rintro e w1 ⟨a1, l1, c1, rfl, h1, b1⟩
  go_wp2_with fail
  refine (l91Word_any _ a1 l1 c1 0 _ h1 (by omega)).mono ?_
  rintro e w2 ⟨x, hx, rfl, _, g2⟩
  go_wp2
  go_ret
  exact ⟨x, hx, rfl, b1.grown g2 b1.size (fun k hk => by cases hk; exact Nat.le_refl _)⟩
set_option maxHeartbeats 1000000 in
theorem DrawCodeIn_any (a : Option Addr) (len cap : Nat) (z : List Int) (W : World) (h : IsRow .u8 W a len cap z) : Calls Try.prog 45 #[.slice a len cap] W (DrawnW W) := by
  have H := Lib.hid h
  clear h
  go_enter Try.func45, Try.ntmps45
  go_wp2_with fail
  refine (open_any _ _ _ z _ H.out).mono ?_
  rintro e w1 ⟨a1, l1, c1, rfl, h1, b1⟩
  go_wp2_with fail
  refine (l91Word_any _ a1 l1 c1 0 _ h1 (by omega)).mono ?_
  rintro e w2 ⟨x, hx, rfl, _, g2⟩
  go_wp2
  go_ret
  exact ⟨x, hx, rfl, b1.grown g2 b1.size (fun k hk => by cases hk; exact Nat.le_refl _)⟩
set_option maxHeartbeats 1000000 in
theorem DrawCodeFar_any (a : Option Addr) (len cap : Nat) (z : List Int) (W : World) (h : IsRow .u8 W a len cap z) : Calls Try.prog 25 #[.slice a len cap] W (DrawnW W) := by
  have H := Lib.hid h
  clear h
  go_enter Try.func25, Try.ntmps25
  go_wp2_with fail
  refine (open_any _ _ _ z _ H.out).mono ?_
  rintro e w1 ⟨a1, l1, c1, rfl, h1, b1⟩
  go_wp2_with fail
  refine (l91Word_any _ a1 l1 c1 0 _ h1 (by omega)).mono ?_
  rintro e w2 ⟨x, hx, rfl, _, g2⟩
  go_wp2
  go_ret
  exact ⟨x, hx, rfl, b1.grown g2 b1.size (fun k hk => by cases hk; exact Nat.le_refl _)⟩
set_option maxHeartbeats 1000000 in
theorem DrawCodeOf_any (a : Option Addr) (len cap : Nat) (z : List Int) (W : World) (h : IsRow .u8 W a len cap z) : Calls Try.prog 42 #[.slice a len cap] W (DrawnM W) := by
  have H := Lib.hid h
  clear h
  go_enter Try.func42, Try.ntmps42
  go_wp2_with fail
  refine (open_any _ _ _ z _ H.out).mono ?_
  rintro e w1 ⟨a1, l1, c1, rfl, h1, b1⟩
  go_wp2_with fail
  refine (pick_any _ a1 l1 c1 0 64 _ h1 (by omega) (by omega) (by omega)).mono ?_
  rintro e w2 ⟨x, x0, x1, rfl, h2, g2⟩
  go_wp2_with fail
  refine (pick_any _ a1 l1 c1 1 64 _ h2 (by omega) (by omega) (by omega)).mono ?_
  rintro e w3 ⟨y, y0, y1, rfl, h3, g3⟩
  go_wp2_with fail
  refine (pick_any _ a1 l1 c1 2 20 _ h3 (by omega) (by omega) (by omega)).mono ?_
  rintro e w4 ⟨z, z0, z1, rfl, h4, g4⟩
  obtain ⟨t, ht, t0, t1⟩ := quo19 z z0 z1
  go_wp2
  go_ret
  exact ⟨_, by omega, by omega, rfl, b1.grown (grownBy_trans g2 (grownBy_trans g3 g4)) b1.size (fun k hk => by cases hk; exact Nat.le_refl _)⟩
set_option maxHeartbeats 1000000 in
theorem DrawCodeMessage_any (a : Option Addr) (len cap : Nat) (z : List Int) (W : World) (h : IsRow .u8 W a len cap z) : Calls Try.prog 47 #[.slice a len cap] W (DrawnW W) := by
  have H := Lib.hid h
  clear h
  go_enter Try.func47, Try.ntmps47
  go_wp2_with fail
  refine (open_any _ _ _ z _ H.out).mono ?_
  rintro e w1 ⟨a1, l1, c1, rfl, h1, b1⟩
  go_wp2_with fail
  refine (pick_any _ a1 l1 c1 0 5 _ h1 (by omega) (by omega) (by omega)).mono ?_
  rintro e w2 ⟨x, x0, x1, rfl, h2, g2⟩
  by_cases c : x = 0
  · subst c
    go_wp2_with fail
    refine (l91Word_any _ a1 l1 c1 1 _ h2 (by omega)).mono ?_
    rintro e w3 ⟨y, hy, rfl, _, g3⟩
    go_wp2
    go_ret
    exact ⟨y, hy, rfl, b1.grown (grownBy_trans g2 g3) b1.size (fun k hk => by cases hk; exact Nat.le_refl _)⟩
  · have e0 : (x == 0) = false := by simp [c]
    go_wp2_with fail
    refine (l91Code_any _ a1 l1 c1 1 _ h2 (by omega)).mono ?_
    rintro e w3 ⟨y, hy, rfl, _, g3⟩
    go_wp2
    go_ret
    exact ⟨y, near_enc hy, rfl, b1.grown (grownBy_trans g2 g3) b1.size (fun k hk => by cases hk; exact Nat.le_refl _)⟩
set_option maxHeartbeats 1000000 in
theorem DrawCodeWeights_any (a : Option Addr) (len cap : Nat) (z : List Int) (W : World) (h : IsRow .u8 W a len cap z) : Calls Try.prog 40 #[.slice a len cap] W (DrawnMM W) := by
  have H := Lib.hid h
  clear h
  go_enter Try.func40, Try.ntmps40
  go_wp2_with fail
  refine (open_any _ _ _ z _ H.out).mono ?_
  rintro e w1 ⟨a1, l1, c1, rfl, h1, b1⟩
  go_wp2_with fail
  refine (pick_any _ a1 l1 c1 0 4 _ h1 (by omega) (by omega) (by omega)).mono ?_
  rintro e w2 ⟨x, x0, x1, rfl, h2, g2⟩
  by_cases c : x = 0
  · subst c
    go_wp2
    go_ret2
    exact ⟨0, 4095, by omega, by omega, by omega, by omega, rfl, b1.grown g2 b1.size (fun k hk => by cases hk; exact Nat.le_refl _)⟩
  · have e0 : (x == 0) = false := by simp [c]
    go_wp2_with fail
    refine (pick_any _ a1 l1 c1 1 64 _ h2 (by omega) (by omega) (by omega)).mono ?_
    rintro e w3 ⟨y, y0, y1, rfl, h3, g3⟩
    go_wp2_with fail
    refine (pick_any _ a1 l1 c1 2 300 _ h3 (by omega) (by omega) (by omega)).mono ?_
    rintro e w4 ⟨u, u0, u1, rfl, h4, g4⟩
    go_wp2_with fail
    refine (pick_any _ a1 l1 c1 3 20 _ h4 (by omega) (by omega) (by omega)).mono ?_
    rintro e w5 ⟨z, z0, z1, rfl, h5, g5⟩
    obtain ⟨t, ht, t0, t1⟩ := quo19 z z0 z1
    go_wp2
    go_ret2
    exact ⟨y * 64, _, by omega, by omega, by omega, by omega, rfl, b1.grown (grownBy_trans g2 (grownBy_trans g3 (grownBy_trans g4 g5))) b1.size (fun k hk => by cases hk; exact Nat.le_refl _)⟩
theorem implAdd_nat (n m : Nat) (hn : n < 16777216) (hm : m < 16777216) (W : World) :
    Calls Try.prog 36 #[.int .i64 n, .int .i64 m] W fun e W' => e = .returned (.tuple #[.int .i64 (n ^^^ m : Nat), .bool true]) ∧ W = W' := by
  have h0 : (0 : Int) ≤ n := by omega
  have h1 : (n : Int) ≤ 16777215 := by omega
  have j0 : (0 : Int) ≤ m := by omega
  have j1 : (m : Int) ≤ 16777215 := by omega
  have b := i64_xor n m (by omega) (by omega)
  clear hn hm
  go_enter Try.func36, Try.ntmps36
  go_wp2
  go_ret2
  exact ⟨rfl, rfl⟩
theorem implWeight_nat (n : Nat) (hn : n < 16777216) (W : World) :
    Calls Try.prog 29 #[.int .i64 n] W fun e W' => e = .returned (.int .i64 (pc n : Nat)) ∧ W = W' := by
  have h0 : (0 : Int) ≤ n := by omega
  have h1 : (n : Int) ≤ 16777215 := by omega
  have Hw := Lib.hid (IsW.mk n hn)
  clear hn
  go_enter Try.func29, Try.ntmps29
  go_wp2_with (first | (go_at_call 54; refine (weight_any _ Hw.out _).mono ?_; rintro e w2 ⟨rfl, rfl⟩; simp only [Int.toNat_natCast]) | go_in)
  go_ret
  exact ⟨rfl, rfl⟩
end Go.Proofs.Ytompdebingllmaa
