/- Contracts of the digits: whether a number is one, their products, sums and products checked. No condition beyond those stated. -/
import Derived.Test.YtahmophmdchiaaaHexa
namespace Go.Proofs.Ytahmophmdchiaaa
open Go.RowKit Gol
/-- whether a number is a digit -/
def dig (x : Int) : Bool := decide (0 ≤ x ∧ x ≤ 3)
theorem dig_iff {x : Int} : dig x = true ↔ 0 ≤ x ∧ x ≤ 3 := by simp [dig]
theorem dig_not {x : Int} (h : ¬ (0 ≤ x ∧ x ≤ 3)) : dig x = false := by simpa [dig] using h
theorem digitOk_any (x : Int) (W : World) : Calls Try.prog 54 #[.int .i64 x] W fun e W' => e = .returned (.bool (dig x)) ∧ W = W' := by
  by_cases h0 : 0 ≤ x
  · by_cases h1 : x ≤ 3
    · rw [show dig x = true from dig_iff.2 ⟨h0, h1⟩]
      go_enter Try.func54, Try.ntmps54
      go_wp2
      go_ret
      exact ⟨rfl, rfl⟩
    · rw [dig_not (by omega)]
      go_enter Try.func54, Try.ntmps54
      go_wp2
      go_ret
      exact ⟨rfl, rfl⟩
  · rw [dig_not (by omega)]
    go_enter Try.func54, Try.ntmps54
    go_wp2
    go_ret
    exact ⟨rfl, rfl⟩
theorem l2Digit_any (x : Int) (W : World) : Calls Try.prog 53 #[.int .i64 x] W fun e W' => e = .returned (.bool (dig x)) ∧ W = W' := by
  by_cases h0 : 0 ≤ x
  · by_cases h1 : x ≤ 3
    · rw [show dig x = true from dig_iff.2 ⟨h0, h1⟩]
      go_enter Try.func53, Try.ntmps53
      go_wp2
      go_ret
      exact ⟨rfl, rfl⟩
    · rw [dig_not (by omega)]
      go_enter Try.func53, Try.ntmps53
      go_wp2
      go_ret
      exact ⟨rfl, rfl⟩
  · rw [dig_not (by omega)]
    go_enter Try.func53, Try.ntmps53
    go_wp2
    go_ret
    exact ⟨rfl, rfl⟩
theorem times_any (a b : Int) (a0 : 0 ≤ a) (a1 : a < 4) (b0 : 0 ≤ b) (b1 : b < 4) (W : World) :
    Calls Try.prog 56 #[.int .i64 a, .int .i64 b] W fun e W' => e = .returned (.int .i64 (times a.toNat b.toNat)) ∧ W = W' := by
  obtain ⟨n, rfl⟩ := Int.eq_ofNat_of_zero_le a0
  obtain ⟨m, rfl⟩ := Int.eq_ofNat_of_zero_le b0
  by_cases h1 : n = 0
  · subst h1
    go_enter Try.func56, Try.ntmps56
    go_wp2
    go_ret
    exact ⟨ret_int (by simp [times]), rfl⟩
  · by_cases h2 : m = 0
    · subst h2
      have e1 : ((n : Int) == 0) = false := by rw [beq_eq_false_iff_ne]; omega
      go_enter Try.func56, Try.ntmps56
      go_wp2
      go_ret
      exact ⟨ret_int (by simp [times]), rfl⟩
    · have e1 : ((n : Int) == 0) = false := by rw [beq_eq_false_iff_ne]; omega
      have e2 : ((m : Int) == 0) = false := by rw [beq_eq_false_iff_ne]; omega
      have p1 : 1 ≤ n := by omega
      have p2 : 1 ≤ m := by omega
      have HT : Hid (1 + ((n : Int) + (m : Int) - 2) % 3 = ((times n m : Nat) : Int)) := by
        have : times n m = 1 + (n + m - 2) % 3 := by unfold times; rw [if_neg (by omega)]
        have h : 1 + ((n : Int) + (m : Int) - 2) % 3 = ((times n m : Nat) : Int) := by rw [this]; omega
        exact h
      clear h1 h2
      go_enter Try.func56, Try.ntmps56
      go_wp2
      go_ret
      exact ⟨ret_int HT.out, rfl⟩
/-- the sum of two numbers, or -1 where one is no digit -/
def addV (a b : Int) : Int := if dig a && dig b then ((a.toNat ^^^ b.toNat : Nat) : Int) else -1
def timesV (a b : Int) : Int := if dig a && dig b then ((times a.toNat b.toNat : Nat) : Int) else -1
theorem implDigitAdd_any (a b : Int) (W : World) : Calls Try.prog 22 #[.int .i64 a, .int .i64 b] W fun e W' => e = .returned (.int .i64 (addV a b)) ∧ W = W' := by
  by_cases h : 0 ≤ a ∧ a ≤ 3
  · have ha : dig a = true := dig_iff.2 h
    by_cases k : 0 ≤ b ∧ b ≤ 3
    · have hb : dig b = true := dig_iff.2 k
      obtain ⟨a0, a1⟩ := h
      obtain ⟨b0, b1⟩ := k
      obtain ⟨n, rfl⟩ := Int.eq_ofNat_of_zero_le a0
      obtain ⟨m, rfl⟩ := Int.eq_ofNat_of_zero_le b0
      have hx := i64_xor n m (by omega) (by omega)
      have hv : addV n m = ((n ^^^ m : Nat) : Int) := by simp [addV, ha, hb]
      rw [hv]
      go_enter Try.func22, Try.ntmps22
      go_wp2_with (first | (go_at_call 54; refine (digitOk_any _ _).mono ?_; rintro e w1 ⟨rfl, rfl⟩; simp only [ha, hb]) | go_in)
      go_ret
      exact ⟨rfl, rfl⟩
    · have hb : dig b = false := dig_not k
      have hv : addV a b = -1 := by simp [addV, hb]
      rw [hv]
      go_enter Try.func22, Try.ntmps22
      go_wp2_with (first | (go_at_call 54; refine (digitOk_any _ _).mono ?_; rintro e w1 ⟨rfl, rfl⟩; simp only [ha, hb]) | go_in)
      go_ret
      exact ⟨rfl, rfl⟩
  · have ha : dig a = false := dig_not h
    have hv : addV a b = -1 := by simp [addV, ha]
    rw [hv]
    go_enter Try.func22, Try.ntmps22
    go_wp2_with (first | (go_at_call 54; refine (digitOk_any _ _).mono ?_; rintro e w1 ⟨rfl, rfl⟩; simp only [ha]) | go_in)
    go_ret
    exact ⟨rfl, rfl⟩
theorem implDigitTimes_any (a b : Int) (W : World) : Calls Try.prog 24 #[.int .i64 a, .int .i64 b] W fun e W' => e = .returned (.int .i64 (timesV a b)) ∧ W = W' := by
  by_cases h : 0 ≤ a ∧ a ≤ 3
  · have ha : dig a = true := dig_iff.2 h
    by_cases k : 0 ≤ b ∧ b ≤ 3
    · have hb : dig b = true := dig_iff.2 k
      obtain ⟨a0, a1⟩ := h
      obtain ⟨b0, b1⟩ := k
      have hv : timesV a b = ((times a.toNat b.toNat : Nat) : Int) := by simp [timesV, ha, hb]
      rw [hv]
      go_enter Try.func24, Try.ntmps24
      go_wp2_with (first | (go_at_call 54; refine (digitOk_any _ _).mono ?_; rintro e w1 ⟨rfl, rfl⟩; simp only [ha, hb]) | (go_at_call 56; refine (times_any _ _ a0 (by omega) b0 (by omega) _).mono ?_; rintro e w1 ⟨rfl, rfl⟩) | go_in)
      go_ret
      exact ⟨rfl, rfl⟩
    · have hb : dig b = false := dig_not k
      have hv : timesV a b = -1 := by simp [timesV, hb]
      rw [hv]
      go_enter Try.func24, Try.ntmps24
      go_wp2_with (first | (go_at_call 54; refine (digitOk_any _ _).mono ?_; rintro e w1 ⟨rfl, rfl⟩; simp only [ha, hb]) | go_in)
      go_ret
      exact ⟨rfl, rfl⟩
  · have ha : dig a = false := dig_not h
    have hv : timesV a b = -1 := by simp [timesV, ha]
    rw [hv]
    go_enter Try.func24, Try.ntmps24
    go_wp2_with (first | (go_at_call 54; refine (digitOk_any _ _).mono ?_; rintro e w1 ⟨rfl, rfl⟩; simp only [ha]) | go_in)
    go_ret
    exact ⟨rfl, rfl⟩
theorem specDigitAdd_any (a b : Int) (W : World) : Calls Try.prog 21 #[.int .i64 a, .int .i64 b] W fun e W' => e = .returned (.int .i64 (addV a b)) ∧ W = W' := by
  by_cases h : 0 ≤ a ∧ a ≤ 3
  · have ha : dig a = true := dig_iff.2 h
    by_cases k : 0 ≤ b ∧ b ≤ 3
    · have hb : dig b = true := dig_iff.2 k
      obtain ⟨a0, a1⟩ := h
      obtain ⟨b0, b1⟩ := k
      obtain ⟨n, rfl⟩ := Int.eq_ofNat_of_zero_le a0
      obtain ⟨m, rfl⟩ := Int.eq_ofNat_of_zero_le b0
      have hx := i64_xor n m (by omega) (by omega)
      have hv : addV n m = ((n ^^^ m : Nat) : Int) := by simp [addV, ha, hb]
      rw [hv]
      go_enter Try.func21, Try.ntmps21
      go_wp2_with (first | (go_at_call 53; refine (l2Digit_any _ _).mono ?_; rintro e w1 ⟨rfl, rfl⟩; simp only [ha, hb]) | go_in)
      go_ret
      exact ⟨rfl, rfl⟩
    · have hb : dig b = false := dig_not k
      have hv : addV a b = -1 := by simp [addV, hb]
      rw [hv]
      go_enter Try.func21, Try.ntmps21
      go_wp2_with (first | (go_at_call 53; refine (l2Digit_any _ _).mono ?_; rintro e w1 ⟨rfl, rfl⟩; simp only [ha, hb]) | go_in)
      go_ret
      exact ⟨rfl, rfl⟩
  · have ha : dig a = false := dig_not h
    have hv : addV a b = -1 := by simp [addV, ha]
    rw [hv]
    go_enter Try.func21, Try.ntmps21
    go_wp2_with (first | (go_at_call 53; refine (l2Digit_any _ _).mono ?_; rintro e w1 ⟨rfl, rfl⟩; simp only [ha]) | go_in)
    go_ret
    exact ⟨rfl, rfl⟩
theorem specDigitTimes_any (a b : Int) (W : World) : Calls Try.prog 23 #[.int .i64 a, .int .i64 b] W fun e W' => e = .returned (.int .i64 (timesV a b)) ∧ W = W' := by
  by_cases h : 0 ≤ a ∧ a ≤ 3
  · have ha : dig a = true := dig_iff.2 h
    by_cases k : 0 ≤ b ∧ b ≤ 3
    · have hb : dig b = true := dig_iff.2 k
      obtain ⟨a0, a1⟩ := h
      obtain ⟨b0, b1⟩ := k
      have hv : timesV a b = ((times a.toNat b.toNat : Nat) : Int) := by simp [timesV, ha, hb]
      rw [hv]
      go_enter Try.func23, Try.ntmps23
      go_wp2_with (first | (go_at_call 53; refine (l2Digit_any _ _).mono ?_; rintro e w1 ⟨rfl, rfl⟩; simp only [ha, hb]) | (go_at_call 55; refine (l2Times_any _ _ a0 (by omega) b0 (by omega) _).mono ?_; rintro e w1 ⟨rfl, rfl⟩) | go_in)
      go_ret
      exact ⟨rfl, rfl⟩
    · have hb : dig b = false := dig_not k
      have hv : timesV a b = -1 := by simp [timesV, hb]
      rw [hv]
      go_enter Try.func23, Try.ntmps23
      go_wp2_with (first | (go_at_call 53; refine (l2Digit_any _ _).mono ?_; rintro e w1 ⟨rfl, rfl⟩; simp only [ha, hb]) | go_in)
      go_ret
      exact ⟨rfl, rfl⟩
  · have ha : dig a = false := dig_not h
    have hv : timesV a b = -1 := by simp [timesV, ha]
    rw [hv]
    go_enter Try.func23, Try.ntmps23
    go_wp2_with (first | (go_at_call 53; refine (l2Digit_any _ _).mono ?_; rintro e w1 ⟨rfl, rfl⟩; simp only [ha]) | go_in)
    go_ret
    exact ⟨rfl, rfl⟩
end Go.Proofs.Ytahmophmdchiaaa
