/- Contracts of the reference's products of digits, rows of the hexacode and columns. No condition beyond those stated. -/
import Derived.Test.YtdcljbohoefpcaaDoorOwn
import Derived.Test.YtdcljbohoefpcaaDoorPlainH
namespace Go.Proofs.YtdcljbohoefpcaaDoor
open Go.RowKit Gol
theorem l2Times_any (a b : Int) (a0 : 0 ≤ a) (a1 : a < 4) (b0 : 0 ≤ b) (b1 : b < 4) (W : World) :
    Calls Tryd.prog 47 #[.int .i64 a, .int .i64 b] W fun e W' => e = .returned (.int .i64 (times a.toNat b.toNat)) ∧ W = W' := by
  obtain ⟨n, rfl⟩ := Int.eq_ofNat_of_zero_le a0
  obtain ⟨m, rfl⟩ := Int.eq_ofNat_of_zero_le b0
  by_cases h1 : n = 0
  · subst h1
    go_enter Tryd.func47, Tryd.ntmps47
    go_wp2
    go_ret
    exact ⟨ret_int (by simp [times]), rfl⟩
  · by_cases h2 : m = 0
    · subst h2
      have e1 : ((n : Int) == 0) = false := by rw [beq_eq_false_iff_ne]; omega
      go_enter Tryd.func47, Tryd.ntmps47
      go_wp2
      go_ret
      exact ⟨ret_int (by simp [times]), rfl⟩
    · have e1 : ((n : Int) == 0) = false := by rw [beq_eq_false_iff_ne]; omega
      have e2 : ((m : Int) == 0) = false := by rw [beq_eq_false_iff_ne]; omega
      have p1 : 1 ≤ n := by omega
      have p2 : 1 ≤ m := by omega
      have HT : Hid (1 + ((n : Int) + (m : Int) - 2) % 3 = ((times n m : Nat) : Int)) := by
        have : times n m = 1 + (n + m - 2) % 3 := by unfold times; rw [if_neg (by omega)]
        have h : 1 + ((n : Int) + (m : Int) - 2) % 3 = ((times n m : Nat) : Int) := by rw [this]; omega
        exact h
      clear h1 h2
      go_enter Tryd.func47, Tryd.ntmps47
      go_wp2
      go_ret
      exact ⟨ret_int HT.out, rfl⟩
def ints (l : List Nat) : List Int := l.map Int.ofNat
theorem ints_length (l : List Nat) : (ints l).length = l.length := List.length_map ..
theorem Owns.lit3 (w : World) (B : Nat) (x y z : Int) (h : B ≤ w.heap.size) : Owns (w.alloc (.cells #[.int .i64 x, .int .i64 y, .int .i64 z] 3)) B (.slice (some ⟨w.heap.size, 0, none⟩) 3 3) [x, y, z] :=
  World.ownsRow_lit w #[.int .i64 x, .int .i64 y, .int .i64 z] 3 h (by decide) rfl
theorem row_take (a b c k : Nat) (hk : k < 3) : (hexRow a b c).take (3 + (k + 1)) = (hexRow a b c).take (3 + k) ++ [hexF a b c (k + 1)] := by
  match k, hk with
  | 0, _ => rfl
  | 1, _ => rfl
  | 2, _ => rfl
set_option maxHeartbeats 1000000 in
theorem l2Of_any (a b c : Int) (a0 : 0 ≤ a) (a1 : a < 4) (b0 : 0 ≤ b) (b1 : b < 4) (c0 : 0 ≤ c) (c1 : c < 4) (W : World) :
    Calls Tryd.prog 38 #[.int .i64 a, .int .i64 b, .int .i64 c] W (RetOwns W.heap.size (ints (hexRow a.toNat b.toNat c.toNat)) W) := by
  obtain ⟨n, rfl⟩ := Int.eq_ofNat_of_zero_le a0
  obtain ⟨m, rfl⟩ := Int.eq_ofNat_of_zero_le b0
  obtain ⟨o, rfl⟩ := Int.eq_ofNat_of_zero_le c0
  go_enter Tryd.func38, Tryd.ntmps38
  go_wp2
  go_loopw [7, 8] (fun v i wr => ∃ k : Nat, k ≤ 3 ∧ i = .int .i64 ((k + 1 : Nat) : Int) ∧ Owns wr W.heap.size v (ints ((hexRow n m o).take (3 + k))) ∧ Below W.heap.size W wr) (fun _ i _ => 4 - (intOf i).toNat)
  case atStart => exact ⟨0, by omega, rfl, Owns.lit3 _ _ _ _ _ (Nat.le_refl _), (Below.refl _ _).alloc (Nat.le_refl _) _⟩
  case round =>
    obtain ⟨k, hk, rfl, hown, hbel⟩ := hrel
    by_cases hlt : k < 3
    · have et : ((k : Int) + 1).toNat = k + 1 := by omega
      have t1 := times_lt (k + 1) (by omega) (k + 1) (by omega)
      have t2 := times_lt n (by omega) _ t1
      have t3 := times_lt m (by omega) (k + 1) (by omega)
      have x1 := i64_xor (times n (times (k + 1) (k + 1))) (times m (k + 1)) (by omega) (by omega)
      have x2l := xor_lt4 t2 t3
      have x2 := i64_xor (times n (times (k + 1) (k + 1)) ^^^ times m (k + 1)) o (by omega) (by omega)
      have e3 : times n (times (k + 1) (k + 1)) ^^^ times m (k + 1) ^^^ o = hexF n m o (k + 1) := rfl
      rw [e3] at x2
      have hlen : Hid ((ints ((hexRow n m o).take (3 + k))).length ≤ 1000000) := by
        have : (ints ((hexRow n m o).take (3 + k))).length ≤ 1000000 := by rw [ints_length, List.length_take]; omega
        exact this
      have Hs := Lib.hid (row_take n m o k hlt)
      clear e3 x2l
      go_wp2_with (first | (go_at_call 47; refine (l2Times_any _ _ (by omega) (by omega) (by omega) (by omega) _).mono ?_; rintro e w' ⟨rfl, rfl⟩; simp only [Int.toNat_natCast, et]) | (at_builtin; refine wpList_append_int rfl _ _ rfl W W.heap.size _ _ (hexF n m o (k + 1)) (by rfl) (by rfl) hown hbel (Nat.le_refl _) hlen.out ?_; intro v1 w1 hown1 hbel1))
      go_roundw
      case rel => exact ⟨k + 1, by omega, by go_num, by rw [Hs.out]; simpa [ints] using hown1, hbel1⟩
      case measure => simp [intOf]; omega
    · go_wp2
      obtain rfl : k = 3 := by omega
      go_ret
      exact RetOwns.mk hown hbel
end Go.Proofs.YtdcljbohoefpcaaDoor
