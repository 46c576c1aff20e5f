/- Bit operations on int, of natural numbers below 2^63, as the walk writes them. No condition beyond those stated. -/
import Derived.Test.YtdcljbohoefpcaaDoorPlainW
import Derived.WalkKit
namespace Go.Proofs.YtdcljbohoefpcaaDoor
open Go.RowKit Gol
/-- a word: behind a plain definition, since the walk does not bear the numeral among its hypotheses -/
def IsW (w : Int) : Prop := 0 ≤ w ∧ w < 16777216
theorem IsW.of {w : Int} (h : IsW w) : ∃ n : Nat, w = n ∧ n < 16777216 := ⟨w.toNat, by have := h.1; omega, by have := h.1; have := h.2; omega⟩
theorem IsW.mk (n : Nat) (h : n < 16777216) : IsW n := ⟨by omega, by omega⟩
theorem ret_int {k : IntKind} {a b : Int} (h : a = b) : Ending.returned (.int k a) = .returned (.int k b) := by rw [h]
theorem ofInt64 (a : Nat) (ha : a < 9223372036854775808) : (BitVec.ofInt 64 (a : Int)).toNat = a := by
  rw [BitVec.toNat_ofInt]; omega
theorem i64_nat (a : Nat) (ha : a < 9223372036854775808) : IntKind.i64.wrap (a : Int) = a := IntWalk.i64_in _ (by omega)
theorem i64_and (a b : Nat) (ha : a < 9223372036854775808) (hb : b < 9223372036854775808) : bits .and .i64 (a : Int) (b : Int) = ((a &&& b : Nat) : Int) := by
  show IntKind.i64.wrap ((BitVec.ofInt 64 (a : Int) &&& BitVec.ofInt 64 (b : Int)).toNat : Int) = _
  rw [BitVec.toNat_and, ofInt64 a ha, ofInt64 b hb, i64_nat _ (Nat.and_lt_two_pow (n := 63) a hb)]
theorem i64_or (a b : Nat) (ha : a < 9223372036854775808) (hb : b < 9223372036854775808) : bits .or .i64 (a : Int) (b : Int) = ((a ||| b : Nat) : Int) := by
  show IntKind.i64.wrap ((BitVec.ofInt 64 (a : Int) ||| BitVec.ofInt 64 (b : Int)).toNat : Int) = _
  rw [BitVec.toNat_or, ofInt64 a ha, ofInt64 b hb, i64_nat _ (Nat.or_lt_two_pow (n := 63) ha hb)]
theorem i64_xor (a b : Nat) (ha : a < 9223372036854775808) (hb : b < 9223372036854775808) : bits .xor .i64 (a : Int) (b : Int) = ((a ^^^ b : Nat) : Int) := by
  show IntKind.i64.wrap ((BitVec.ofInt 64 (a : Int) ^^^ BitVec.ofInt 64 (b : Int)).toNat : Int) = _
  rw [BitVec.toNat_xor, ofInt64 a ha, ofInt64 b hb, i64_nat _ (Nat.xor_lt_two_pow (n := 63) ha hb)]
theorem i64_less (a b : Nat) (ha : a < 9223372036854775808) (hb : b < 9223372036854775808) : bits .andNot .i64 (a : Int) (b : Int) = ((less a b : Nat) : Int) := by
  show IntKind.i64.wrap ((BitVec.ofInt 64 (a : Int) &&& ~~~ BitVec.ofInt 64 (b : Int)).toNat : Int) = _
  have e : ∀ x y : BitVec 64, x &&& ~~~ y = x ^^^ (x &&& y) := by
    intro x y
    apply BitVec.eq_of_getElem_eq
    intro i hi
    simp
    cases x[i] <;> cases y[i] <;> rfl
  rw [e, BitVec.toNat_xor, BitVec.toNat_and, ofInt64 a ha, ofInt64 b hb]
  exact i64_nat _ (Nat.xor_lt_two_pow (n := 63) ha (by rw [Nat.and_comm]; exact Nat.and_lt_two_pow _ ha))
theorem shr_nat (n k : Nat) : ((n : Int) / 2 ^ k) = ((n / 2 ^ k : Nat) : Int) := by simp
theorem shr_bit (n k : Nat) (hn : n < 9223372036854775808) : bits .and .i64 ((n : Int) / 2 ^ k) 1 = ((bitN n k : Nat) : Int) := by
  rw [shr_nat]
  have := i64_and (n / 2 ^ k) 1 (Nat.lt_of_le_of_lt (Nat.div_le_self _ _) hn) (by decide)
  rw [Nat.and_one_is_mod] at this
  exact this
theorem shl_one (k : Nat) (hk : k < 62) : IntKind.i64.wrap (1 * 2 ^ k) = ((2 ^ k : Nat) : Int) := by
  rw [Int.one_mul, show ((2 : Int) ^ k) = ((2 ^ k : Nat) : Int) by simp]
  exact i64_nat _ (Nat.lt_of_lt_of_le (Nat.pow_lt_pow_right (by decide) hk) (by decide))
end Go.Proofs.YtdcljbohoefpcaaDoor
