/- Contracts of rows for three digits, of both. No condition beyond those stated. -/
import Derived.Test.YtompdebingllmaaDigits
namespace Go.Proofs.Ytompdebingllmaa
open Go.RowKit Gol
set_option maxHeartbeats 1000000 in
theorem hexOf_any (a b c : Int) (a0 : 0 ≤ a) (a1 : a < 4) (b0 : 0 ≤ b) (b1 : b < 4) (c0 : 0 ≤ c) (c1 : c < 4) (W : World) :
    Calls Try.prog 69 #[.int .i64 a, .int .i64 b, .int .i64 c] W (RetOwns W.heap.size (ints (hexRow a.toNat b.toNat c.toNat)) W) := by
  obtain ⟨n, rfl⟩ := Int.eq_ofNat_of_zero_le a0
  obtain ⟨m, rfl⟩ := Int.eq_ofNat_of_zero_le b0
  obtain ⟨o, rfl⟩ := Int.eq_ofNat_of_zero_le c0
  go_enter Try.func69, Try.ntmps69
  go_wp2
  go_loopw [7, 8] (fun v i wr => ∃ k : Nat, k ≤ 3 ∧ i = .int .i64 ((k + 1 : Nat) : Int) ∧ Owns wr W.heap.size v (ints ((hexRow n m o).take (3 + k))) ∧ Below W.heap.size W wr) (fun _ i _ => 4 - (intOf i).toNat)
  case atStart => exact ⟨0, by omega, rfl, Owns.lit3 _ _ _ _ _ (Nat.le_refl _), (Below.refl _ _).alloc (Nat.le_refl _) _⟩
  case round =>
    obtain ⟨k, hk, rfl, hown, hbel⟩ := hrel
    by_cases hlt : k < 3
    · have et : ((k : Int) + 1).toNat = k + 1 := by omega
      have t1 := times_lt (k + 1) (by omega) (k + 1) (by omega)
      have t2 := times_lt n (by omega) _ t1
      have t3 := times_lt m (by omega) (k + 1) (by omega)
      have x1 := i64_xor (times n (times (k + 1) (k + 1))) (times m (k + 1)) (by omega) (by omega)
      have x2l := xor_lt4 t2 t3
      have x2 := i64_xor (times n (times (k + 1) (k + 1)) ^^^ times m (k + 1)) o (by omega) (by omega)
      have e3 : times n (times (k + 1) (k + 1)) ^^^ times m (k + 1) ^^^ o = hexF n m o (k + 1) := rfl
      rw [e3] at x2
      have hlen : Hid ((ints ((hexRow n m o).take (3 + k))).length ≤ 1000000) := by
        have : (ints ((hexRow n m o).take (3 + k))).length ≤ 1000000 := by rw [ints_length, List.length_take]; omega
        exact this
      have Hs := Lib.hid (row_take n m o k hlt)
      clear e3 x2l
      go_wp2_with (first | (go_at_call 82; refine (times_any _ _ (by omega) (by omega) (by omega) (by omega) _).mono ?_; rintro e w' ⟨rfl, rfl⟩; simp only [Int.toNat_natCast, et]) | (at_builtin; refine wpList_append_int rfl _ _ rfl W W.heap.size _ _ (hexF n m o (k + 1)) (by rfl) (by rfl) hown hbel (Nat.le_refl _) hlen.out ?_; intro v1 w1 hown1 hbel1))
      go_roundw
      case rel => exact ⟨k + 1, by omega, by go_num, by rw [Hs.out]; simpa [ints] using hown1, hbel1⟩
      case measure => simp [intOf]; omega
    · go_wp2
      obtain rfl : k = 3 := by omega
      go_ret
      exact RetOwns.mk hown hbel
/-- what HexOf hands back -/
def hexV (a b c : Int) : List Int := if dig a && dig b && dig c then ints (hexRow a.toNat b.toNat c.toNat) else []
def hexK (a b c : Int) : Bool := dig a && dig b && dig c
theorem hexV_len (a b c : Int) : (hexV a b c).length ≤ 1000000000000 := by
  unfold hexV
  split
  · rw [ints_length]; exact (by decide : 6 ≤ 1000000000000)
  · exact Nat.zero_le _
end Go.Proofs.Ytompdebingllmaa
