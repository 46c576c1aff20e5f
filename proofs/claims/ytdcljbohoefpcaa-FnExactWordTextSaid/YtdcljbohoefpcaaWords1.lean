/- Contracts of small functions on words: a bit, the two weights, the two lists of places. No condition beyond those stated. -/
import Derived.Test.YtdcljbohoefpcaaBase
import Derived.Test.YtdcljbohoefpcaaBits
import Derived.Test.YtdcljbohoefpcaaPlainP
import Derived.Outline
import Derived.WalkLawsBesides
import Derived.WalkSpells
import Derived.OwnWalk
import Derived.Lib.Hide
import Derived.Deep.LoopGhost
namespace Go.Proofs.Ytdcljbohoefpcaa
open Go.RowKit Gol
theorem l1Bit_any (w i : Int) (h0 : 0 ≤ w) (h1 : w < 4611686018427387904) (i0 : 0 ≤ i) (i1 : i < 62) (W : World) :
    Calls Try.prog 55 #[.int .i64 w, .int .i64 i] W fun e W' => e = .returned (.int .i64 (bitN w.toNat i.toNat)) ∧ W = W' := by
  obtain ⟨n, rfl⟩ := Int.eq_ofNat_of_zero_le h0
  obtain ⟨k, rfl⟩ := Int.eq_ofNat_of_zero_le i0
  have hb := shr_bit n k (by omega)
  go_enter Try.func55, Try.ntmps55
  go_wp2
  go_ret
  exact ⟨rfl, rfl⟩
theorem l1Weight_any (w : Int) (hw : IsW w) (W : World) :
    Calls Try.prog 59 #[.int .i64 w] W fun e W' => e = .returned (.int .i64 (pc w.toNat)) ∧ W = W' := by
  obtain ⟨n, rfl, hn⟩ := hw.of
  have Hn := Lib.hid hn
  clear hn
  go_enter Try.func59, Try.ntmps59
  go_wp2
  go_loop [3, 4] (fun s i => ∃ k : Nat, k ≤ 24 ∧ i = .int .i64 k ∧ s = .int .i64 (pcN k n)) (fun _ i => 24 - (intOf i).toNat)
  case atStart => exact ⟨0, by omega, rfl, rfl⟩
  case round =>
    obtain ⟨k, hk, rfl, rfl⟩ := hrel
    by_cases hlt : k < 24
    · have hp := pcN_le k n
      have hb := bitN_lt n k
      go_wp2_with (go_at_call 55; refine (l1Bit_any _ _ (by omega) (by have := Hn.out; omega) (by omega) (by omega) _).mono ?_; rintro e w' ⟨rfl, rfl⟩; simp only [Int.toNat_natCast])
      go_round
      case rel => exact ⟨k + 1, by omega, by go_num, by simp only [pcN]; go_num⟩
      case measure => simp [intOf]; omega
    · go_wp2
      obtain rfl : k = 24 := by omega
      go_ret
      exact ⟨rfl, rfl⟩
theorem u64_nat (a : Nat) (ha : a < 18446744073709551616) : IntKind.u64.wrap (a : Int) = a := IntWalk.u64_in _ (by omega)
theorem u64_andN (a b : Nat) (ha : a < 18446744073709551616) (hb : b < 18446744073709551616) : bits .and .u64 (a : Int) (b : Int) = ((a &&& b : Nat) : Int) := u64_and_nat a b ha hb
theorem one1 (n : Nat) (hn : n < 16777216) : IntKind.u64.wrap (bits .and .u64 ((n : Int) / 2) 6148914691236517205 + bits .and .u64 (n : Int) 6148914691236517205) = ((s1 n : Nat) : Int) := by
  have e : ((n : Int) / 2) = ((n / 2 : Nat) : Int) := by simp
  rw [e]
  have h1 := u64_andN (n / 2) 6148914691236517205 (by omega) (by decide)
  have h2 := u64_andN n 6148914691236517205 (by omega) (by decide)
  rw [show ((6148914691236517205 : Nat) : Int) = 6148914691236517205 from rfl] at h1 h2
  rw [h1, h2, ← Int.natCast_add]
  refine u64_nat _ ?_
  have := Nat.and_le_left (n := n / 2) (m := 6148914691236517205)
  have := Nat.and_le_left (n := n) (m := 6148914691236517205)
  omega
theorem one2 (n : Nat) (hn : n < 16777216) : IntKind.u64.wrap (bits .and .u64 ((n : Int) / 4) 3689348814741910323 + bits .and .u64 (n : Int) 3689348814741910323) = ((s2 n : Nat) : Int) := by
  have e : ((n : Int) / 4) = ((n / 4 : Nat) : Int) := by simp
  rw [e]
  have h1 := u64_andN (n / 4) 3689348814741910323 (by omega) (by decide)
  have h2 := u64_andN n 3689348814741910323 (by omega) (by decide)
  rw [show ((3689348814741910323 : Nat) : Int) = 3689348814741910323 from rfl] at h1 h2
  rw [h1, h2, ← Int.natCast_add]
  refine u64_nat _ ?_
  have := Nat.and_le_left (n := n / 4) (m := 3689348814741910323)
  have := Nat.and_le_left (n := n) (m := 3689348814741910323)
  omega
theorem one3 (n : Nat) (hn : n < 16777216) : bits .and .u64 (IntKind.u64.wrap ((n : Int) / 16 + n)) 1085102592571150095 = ((s3 n : Nat) : Int) := by
  have e : ((n : Int) / 16 + n) = ((n / 16 + n : Nat) : Int) := by simp
  rw [e, u64_nat _ (by omega)]
  have h1 := u64_andN (n / 16 + n) 1085102592571150095 (by omega) (by decide)
  rw [show ((1085102592571150095 : Nat) : Int) = 1085102592571150095 from rfl] at h1
  exact h1
theorem ones_end (a : Nat) (h : a < 16777216) : bits .and .i64 (wrap64 (IntKind.u64.wrap (IntKind.u64.wrap (IntKind.u64.wrap ((a : Int) + (a : Int) / 256) + IntKind.u64.wrap ((a : Int) + (a : Int) / 256) / 65536) +
    IntKind.u64.wrap (IntKind.u64.wrap ((a : Int) + (a : Int) / 256) + IntKind.u64.wrap ((a : Int) + (a : Int) / 256) / 65536) / 4294967296))) 127 =
    (((a + a / 256 + (a + a / 256) / 65536 + (a + a / 256 + (a + a / 256) / 65536) / 4294967296) % 128 : Nat) : Int) := by
  have f1 : ((a : Int) + (a : Int) / 256) = ((a + a / 256 : Nat) : Int) := by simp
  rw [f1, u64_nat _ (by omega)]
  generalize a + a / 256 = b at *
  have f2 : ((b : Int) + (b : Int) / 65536) = ((b + b / 65536 : Nat) : Int) := by simp
  rw [f2, u64_nat _ (by omega)]
  generalize b + b / 65536 = c at *
  have f3 : ((c : Int) + (c : Int) / 4294967296) = ((c + c / 4294967296 : Nat) : Int) := by simp
  rw [f3, u64_nat _ (by omega), IntWalk.wrap64_in _ (by omega)]
  have := i64_and (c + c / 4294967296) 127 (by omega) (by decide)
  rw [nat_mask7] at this
  exact this
theorem ones64 (n : Nat) (hn : n < 16777216) (W : World) :
    Calls Try.prog 75 #[.int .u64 n] W fun e W' => e = .returned (.int .i64 (pc n)) ∧ W = W' := by
  have Hn := Lib.hid hn
  clear hn
  go_enter Try.func75, Try.ntmps75
  go_wp2
  go_ret
  refine ⟨ret_int ?_, rfl⟩
  have hn := Hn.out
  have b2 := s2_lt n hn
  simp only [one1 n hn, one2 _ (s1_lt n hn), one3 _ (show s2 (s1 n) < 16777216 by omega)]
  rw [ones_end _ (s3_lt n hn), ← swar_eq n hn]
  rfl
theorem weight_any (w : Int) (hw : IsW w) (W : World) :
    Calls Try.prog 60 #[.int .i64 w] W fun e W' => e = .returned (.int .i64 (pc w.toNat)) ∧ W = W' := by
  obtain ⟨n, rfl, hn⟩ := hw.of
  have Hn := Lib.hid hn
  clear hn
  have e1 : IntKind.u64.wrap (n : Int) = n := u64_nat n (by have := Hn.out; omega)
  go_enter Try.func60, Try.ntmps60
  go_wp2_with (first | (go_at_call 75; refine (ones64 _ Hn.out _).mono ?_; rintro e w' ⟨rfl, rfl⟩) | go_in)
  go_ret
  exact ⟨rfl, rfl⟩
/-- all places but those of a word -/
theorem not_facts (n : Nat) (hn : n < 16777216) : ∃ o : Nat, bits .xor .i64 (n : Int) 16777215 = (o : Int) ∧ IsW o ∧ pc o + pc n = 24 := by
  refine ⟨n ^^^ 16777215, ?_, IsW.mk _ (xor_lt24 hn (by decide)), pcN_not n 24 (by decide)⟩
  have h := i64_xor n 16777215 (by omega) (by decide)
  rwa [show ((16777215 : Nat) : Int) = 16777215 from rfl] at h
end Go.Proofs.Ytdcljbohoefpcaa
