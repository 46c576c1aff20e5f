/- Plain laws of the checked sums and products of digits. No condition beyond those stated. -/
import Derived.Test.YtahmophmdchiaaaDigits
import Derived.Test.YtahmophmdchiaaaDrawB
namespace Go.Proofs.Ytahmophmdchiaaa
open Go.RowKit Gol
theorem addV_law (a b : Int) : addV a b = -1 ∨ (0 ≤ addV a b ∧ addV b a = addV a b ∧ addV (addV a b) b = a ∧ addV a b ≤ 3) := by
  by_cases ha : dig a = true
  · by_cases hb : dig b = true
    · refine .inr ?_
      obtain ⟨a0, a1⟩ := dig_iff.1 ha
      obtain ⟨b0, b1⟩ := dig_iff.1 hb
      obtain ⟨n, rfl⟩ := Int.eq_ofNat_of_zero_le a0
      obtain ⟨m, rfl⟩ := Int.eq_ofNat_of_zero_le b0
      have hn : n < 4 := by omega
      have hm : m < 4 := by omega
      clear ha hb a0 a1 b0 b1
      revert m
      revert n
      decide
    · exact .inl (by simp [addV, hb])
  · exact .inl (by simp [addV, ha])
theorem timesV_law (a b : Int) : timesV a b = -1 ∨ (0 ≤ timesV a b ∧ timesV b a = timesV a b ∧ (timesV a b == 0) = (a == 0 || b == 0) ∧ timesV a (addV b 1) = addV (timesV a b) a) := by
  by_cases ha : dig a = true
  · by_cases hb : dig b = true
    · refine .inr ?_
      obtain ⟨a0, a1⟩ := dig_iff.1 ha
      obtain ⟨b0, b1⟩ := dig_iff.1 hb
      obtain ⟨n, rfl⟩ := Int.eq_ofNat_of_zero_le a0
      obtain ⟨m, rfl⟩ := Int.eq_ofNat_of_zero_le b0
      have hn : n < 4 := by omega
      have hm : m < 4 := by omega
      clear ha hb a0 a1 b0 b1
      revert m
      revert n
      decide
    · exact .inl (by simp [timesV, hb])
  · exact .inl (by simp [timesV, ha])
end Go.Proofs.Ytahmophmdchiaaa
