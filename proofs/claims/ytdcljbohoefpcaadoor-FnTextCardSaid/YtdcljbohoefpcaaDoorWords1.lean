/- Contracts of small functions on words: a bit, the two weights, the two lists of places. No condition beyond those stated. -/
import Derived.Test.YtdcljbohoefpcaaDoorBase
import Derived.Test.YtdcljbohoefpcaaDoorBits
import Derived.Test.YtdcljbohoefpcaaDoorPlainP
import Derived.Outline
import Derived.WalkLawsBesides
import Derived.WalkSpells
import Derived.OwnWalk
import Derived.Lib.Hide
import Derived.Deep.LoopGhost
namespace Go.Proofs.YtdcljbohoefpcaaDoor
open Go.RowKit Gol
theorem l1Bit_any (w i : Int) (h0 : 0 ≤ w) (h1 : w < 4611686018427387904) (i0 : 0 ≤ i) (i1 : i < 62) (W : World) :
    Calls Tryd.prog 18 #[.int .i64 w, .int .i64 i] W fun e W' => e = .returned (.int .i64 (bitN w.toNat i.toNat)) ∧ W = W' := by
  obtain ⟨n, rfl⟩ := Int.eq_ofNat_of_zero_le h0
  obtain ⟨k, rfl⟩ := Int.eq_ofNat_of_zero_le i0
  have hb := shr_bit n k (by omega)
  go_enter Tryd.func18, Tryd.ntmps18
  go_wp2
  go_ret
  exact ⟨rfl, rfl⟩
theorem u64_nat (a : Nat) (ha : a < 18446744073709551616) : IntKind.u64.wrap (a : Int) = a := IntWalk.u64_in _ (by omega)
theorem u64_andN (a b : Nat) (ha : a < 18446744073709551616) (hb : b < 18446744073709551616) : bits .and .u64 (a : Int) (b : Int) = ((a &&& b : Nat) : Int) := u64_and_nat a b ha hb
theorem one1 (n : Nat) (hn : n < 16777216) : IntKind.u64.wrap (bits .and .u64 ((n : Int) / 2) 6148914691236517205 + bits .and .u64 (n : Int) 6148914691236517205) = ((s1 n : Nat) : Int) := by
  have e : ((n : Int) / 2) = ((n / 2 : Nat) : Int) := by simp
  rw [e]
  have h1 := u64_andN (n / 2) 6148914691236517205 (by omega) (by decide)
  have h2 := u64_andN n 6148914691236517205 (by omega) (by decide)
  rw [show ((6148914691236517205 : Nat) : Int) = 6148914691236517205 from rfl] at h1 h2
  rw [h1, h2, ← Int.natCast_add]
  refine u64_nat _ ?_
  have := Nat.and_le_left (n := n / 2) (m := 6148914691236517205)
  have := Nat.and_le_left (n := n) (m := 6148914691236517205)
  omega
theorem one2 (n : Nat) (hn : n < 16777216) : IntKind.u64.wrap (bits .and .u64 ((n : Int) / 4) 3689348814741910323 + bits .and .u64 (n : Int) 3689348814741910323) = ((s2 n : Nat) : Int) := by
  have e : ((n : Int) / 4) = ((n / 4 : Nat) : Int) := by simp
  rw [e]
  have h1 := u64_andN (n / 4) 3689348814741910323 (by omega) (by decide)
  have h2 := u64_andN n 3689348814741910323 (by omega) (by decide)
  rw [show ((3689348814741910323 : Nat) : Int) = 3689348814741910323 from rfl] at h1 h2
  rw [h1, h2, ← Int.natCast_add]
  refine u64_nat _ ?_
  have := Nat.and_le_left (n := n / 4) (m := 3689348814741910323)
  have := Nat.and_le_left (n := n) (m := 3689348814741910323)
  omega
theorem one3 (n : Nat) (hn : n < 16777216) : bits .and .u64 (IntKind.u64.wrap ((n : Int) / 16 + n)) 1085102592571150095 = ((s3 n : Nat) : Int) := by
  have e : ((n : Int) / 16 + n) = ((n / 16 + n : Nat) : Int) := by simp
  rw [e, u64_nat _ (by omega)]
  have h1 := u64_andN (n / 16 + n) 1085102592571150095 (by omega) (by decide)
  rw [show ((1085102592571150095 : Nat) : Int) = 1085102592571150095 from rfl] at h1
  exact h1
theorem ones_end (a : Nat) (h : a < 16777216) : bits .and .i64 (wrap64 (IntKind.u64.wrap (IntKind.u64.wrap (IntKind.u64.wrap ((a : Int) + (a : Int) / 256) + IntKind.u64.wrap ((a : Int) + (a : Int) / 256) / 65536) +
    IntKind.u64.wrap (IntKind.u64.wrap ((a : Int) + (a : Int) / 256) + IntKind.u64.wrap ((a : Int) + (a : Int) / 256) / 65536) / 4294967296))) 127 =
    (((a + a / 256 + (a + a / 256) / 65536 + (a + a / 256 + (a + a / 256) / 65536) / 4294967296) % 128 : Nat) : Int) := by
  have f1 : ((a : Int) + (a : Int) / 256) = ((a + a / 256 : Nat) : Int) := by simp
  rw [f1, u64_nat _ (by omega)]
  generalize a + a / 256 = b at *
  have f2 : ((b : Int) + (b : Int) / 65536) = ((b + b / 65536 : Nat) : Int) := by simp
  rw [f2, u64_nat _ (by omega)]
  generalize b + b / 65536 = c at *
  have f3 : ((c : Int) + (c : Int) / 4294967296) = ((c + c / 4294967296 : Nat) : Int) := by simp
  rw [f3, u64_nat _ (by omega), IntWalk.wrap64_in _ (by omega)]
  have := i64_and (c + c / 4294967296) 127 (by omega) (by decide)
  rw [nat_mask7] at this
  exact this
/-- all places but those of a word -/
theorem not_facts (n : Nat) (hn : n < 16777216) : ∃ o : Nat, bits .xor .i64 (n : Int) 16777215 = (o : Int) ∧ IsW o ∧ pc o + pc n = 24 := by
  refine ⟨n ^^^ 16777215, ?_, IsW.mk _ (xor_lt24 hn (by decide)), pcN_not n 24 (by decide)⟩
  have h := i64_xor n 16777215 (by omega) (by decide)
  rwa [show ((16777215 : Nat) : Int) = 16777215 from rfl] at h
end Go.Proofs.YtdcljbohoefpcaaDoor
