/- Contracts of the digits: whether a number is one, their products, sums and products checked. No condition beyond those stated. -/
import Derived.Test.YtompdebingllmaaHexa
namespace Go.Proofs.Ytompdebingllmaa
open Go.RowKit Gol
/-- whether a number is a digit -/
def dig (x : Int) : Bool := decide (0 ≤ x ∧ x ≤ 3)
theorem dig_iff {x : Int} : dig x = true ↔ 0 ≤ x ∧ x ≤ 3 := by simp [dig]
theorem dig_not {x : Int} (h : ¬ (0 ≤ x ∧ x ≤ 3)) : dig x = false := by simpa [dig] using h
theorem digitOk_any (x : Int) (W : World) : Calls Try.prog 79 #[.int .i64 x] W fun e W' => e = .returned (.bool (dig x)) ∧ W = W' := by
  by_cases h0 : 0 ≤ x
  · by_cases h1 : x ≤ 3
    · rw [show dig x = true from dig_iff.2 ⟨h0, h1⟩]
      go_enter Try.func79, Try.ntmps79
      go_wp2
      go_ret
      exact ⟨rfl, rfl⟩
    · rw [dig_not (by omega)]
      go_enter Try.func79, Try.ntmps79
      go_wp2
      go_ret
      exact ⟨rfl, rfl⟩
  · rw [dig_not (by omega)]
    go_enter Try.func79, Try.ntmps79
    go_wp2
    go_ret
    exact ⟨rfl, rfl⟩
theorem l2Digit_any (x : Int) (W : World) : Calls Try.prog 91 #[.int .i64 x] W fun e W' => e = .returned (.bool (dig x)) ∧ W = W' := by
  by_cases h0 : 0 ≤ x
  · by_cases h1 : x ≤ 3
    · rw [show dig x = true from dig_iff.2 ⟨h0, h1⟩]
      go_enter Try.func91, Try.ntmps91
      go_wp2
      go_ret
      exact ⟨rfl, rfl⟩
    · rw [dig_not (by omega)]
      go_enter Try.func91, Try.ntmps91
      go_wp2
      go_ret
      exact ⟨rfl, rfl⟩
  · rw [dig_not (by omega)]
    go_enter Try.func91, Try.ntmps91
    go_wp2
    go_ret
    exact ⟨rfl, rfl⟩
theorem times_any (a b : Int) (a0 : 0 ≤ a) (a1 : a < 4) (b0 : 0 ≤ b) (b1 : b < 4) (W : World) :
    Calls Try.prog 82 #[.int .i64 a, .int .i64 b] W fun e W' => e = .returned (.int .i64 (times a.toNat b.toNat)) ∧ W = W' := by
  obtain ⟨n, rfl⟩ := Int.eq_ofNat_of_zero_le a0
  obtain ⟨m, rfl⟩ := Int.eq_ofNat_of_zero_le b0
  by_cases h1 : n = 0
  · subst h1
    go_enter Try.func82, Try.ntmps82
    go_wp2
    go_ret
    exact ⟨ret_int (by simp [times]), rfl⟩
  · by_cases h2 : m = 0
    · subst h2
      have e1 : ((n : Int) == 0) = false := by rw [beq_eq_false_iff_ne]; omega
      go_enter Try.func82, Try.ntmps82
      go_wp2
      go_ret
      exact ⟨ret_int (by simp [times]), rfl⟩
    · have e1 : ((n : Int) == 0) = false := by rw [beq_eq_false_iff_ne]; omega
      have e2 : ((m : Int) == 0) = false := by rw [beq_eq_false_iff_ne]; omega
      have p1 : 1 ≤ n := by omega
      have p2 : 1 ≤ m := by omega
      have HT : Hid (1 + ((n : Int) + (m : Int) - 2) % 3 = ((times n m : Nat) : Int)) := by
        have : times n m = 1 + (n + m - 2) % 3 := by unfold times; rw [if_neg (by omega)]
        have h : 1 + ((n : Int) + (m : Int) - 2) % 3 = ((times n m : Nat) : Int) := by rw [this]; omega
        exact h
      clear h1 h2
      go_enter Try.func82, Try.ntmps82
      go_wp2
      go_ret
      exact ⟨ret_int HT.out, rfl⟩
/-- the sum of two numbers, or -1 where one is no digit -/
def addV (a b : Int) : Int := if dig a && dig b then ((a.toNat ^^^ b.toNat : Nat) : Int) else -1
def timesV (a b : Int) : Int := if dig a && dig b then ((times a.toNat b.toNat : Nat) : Int) else -1
end Go.Proofs.Ytompdebingllmaa
