/- Plain facts on ranks of words: the next word of a weight has the next rank. No condition. -/
import Derived.Test.YtdcljbohoefpcaaPlainW
namespace Gol
/-- how many ways there are to choose k of n -/
def bin : Nat → Nat → Nat
  | _, 0 => 1
  | 0, _ + 1 => 0
  | n + 1, k + 1 => bin n k + bin n (k + 1)
/-- Pascal's rows, quick to reckon -/
def row : Nat → List Nat
  | 0 => [1]
  | n + 1 => let r := row n; List.zipWith (· + ·) (0 :: r) (r ++ [0])
theorem bin_gt : ∀ n k, n < k → bin n k = 0 := by
  intro n
  induction n with
  | zero => intro k h; cases k with
    | zero => omega
    | succ k => rfl
  | succ n ih => intro k h; cases k with
    | zero => omega
    | succ k => simp only [bin]; rw [ih k (by omega), ih (k + 1) (by omega)]
theorem row_spec (n : Nat) : row n = (List.range (n + 1)).map (bin n) := by
  induction n with
  | zero => rfl
  | succ n ih =>
    apply List.ext_getElem
    · simp [row, ih]
    · intro i h1 h2
      simp only [row, ih, List.getElem_zipWith, List.getElem_map, List.getElem_range]
      cases i with
      | zero => simp [bin]
      | succ i =>
        simp only [List.getElem_cons_succ, List.getElem_map, List.getElem_range, bin]
        by_cases hi : i + 1 < n + 1
        · rw [List.getElem_append_left (by simpa using hi)]
          simp
        · rw [List.getElem_append_right (by simpa using hi)]
          rw [bin_gt n (i + 1) (by omega)]
          simp
theorem bin_row (n k : Nat) (h : k ≤ n) : bin n k = (row n).getD k 0 := by
  rw [row_spec]
  simp [List.getD, List.getElem?_map, List.getElem?_range (show k < n + 1 by omega)]
def binF (n k : Nat) : Nat := (row n).getD k 0
theorem bin_eq_binF (n k : Nat) : bin n k = binF n k := by
  by_cases h : k ≤ n
  · exact bin_row n k h
  · rw [bin_gt n k (by omega)]; unfold binF; rw [row_spec]; simp [List.getD]; rw [List.getElem?_eq_none (by simp; omega)]; rfl
theorem choose_stepF : ∀ n, n < 24 → ∀ j, j < n → binF n j * (n - j) = binF n (j + 1) * (j + 1) ∧ binF n j * (n - j) < 16777216 := by decide +kernel
theorem choose_step (n j : Nat) (hn : n < 24) (hj : j < n) : bin n j * (n - j) / (j + 1) = bin n (j + 1) ∧ bin n j * (n - j) < 16777216 := by
  have := choose_stepF n hn j hj
  rw [bin_eq_binF, bin_eq_binF, this.1, Nat.mul_div_cancel _ (by omega)]
  exact ⟨rfl, this.1 ▸ this.2⟩
theorem choose2_stepF : ∀ n, n < 24 → ∀ i, i < n → binF n i * (n + 1) = binF (n + 1) (i + 1) * (i + 1) ∧ binF n i * (n + 1) < 268435456 := by decide +kernel
theorem bin_self (n : Nat) : bin n n = 1 := by
  induction n with
  | zero => rfl
  | succ n ih => simp only [bin]; rw [ih, bin_gt n (n + 1) (by omega)]
theorem choose2_step (n i : Nat) (hn : n < 24) (hi : i ≤ n) : bin n i * (n + 1) / (i + 1) = bin (n + 1) (i + 1) ∧ bin n i * (n + 1) < 268435456 := by
  by_cases he : i = n
  · subst he; rw [bin_self, bin_self, Nat.one_mul, Nat.div_self (by omega)]; exact ⟨rfl, by omega⟩
  · have := choose2_stepF n hn i (by omega)
    rw [bin_eq_binF, bin_eq_binF, this.1, Nat.mul_div_cancel _ (by omega)]
    exact ⟨rfl, this.1 ▸ this.2⟩
theorem bin_ltF : ∀ n, n < 24 → ∀ k, k ≤ 24 → binF n k < 1352079 := by decide +kernel
theorem bin_lt (n k : Nat) (hn : n < 24) (hk : k ≤ 24) : bin n k < 1352079 := by rw [bin_eq_binF]; exact bin_ltF n hn k hk
/-- the rank, off the lowest n bits -/
def rkN : Nat → Nat → Nat
  | 0, _ => 0
  | n + 1, w => rkN n w + if bitN w n = 1 then bin n (pcN n w + 1) else 0
def rank (w : Nat) : Nat := rkN 24 w
/-- the sum over a list of places, from the i-th on -/
def rkL : List Nat → Nat → Nat
  | [], _ => 0
  | p :: ps, i => bin p (i + 1) + rkL ps (i + 1)
theorem rkL_append (l m : List Nat) : ∀ i, rkL (l ++ m) i = rkL l i + rkL m (i + l.length) := by
  induction l with
  | nil => intro i; simp [rkL]
  | cons p ps ih => intro i; simp only [List.cons_append, rkL, ih, List.length_cons]; rw [show i + 1 + ps.length = i + (ps.length + 1) by omega]; omega
theorem rkL_plN (n w : Nat) : rkL (plN n w) 0 = rkN n w := by
  induction n with
  | zero => rfl
  | succ n ih =>
    simp only [plN, rkN]
    rw [rkL_append, ih, plN_length]
    by_cases h : bitN w n = 1
    · simp [h, rkL]
    · simp [h, rkL]
theorem rkL_take (l : List Nat) (k : Nat) (h : k < l.length) : rkL (l.take (k + 1)) 0 = rkL (l.take k) 0 + bin (l[k]) (k + 1) := by
  rw [List.take_succ_eq_append_getElem h, rkL_append]
  simp [rkL, List.length_take, Nat.min_eq_left (Nat.le_of_lt h)]
theorem rkN_mod (n w : Nat) : ∀ k, n ≤ k → rkN n (w % 2 ^ k) = rkN n w := by
  induction n with
  | zero => intro k _; rfl
  | succ n ih =>
    intro k hk
    simp only [rkN]
    rw [ih k (by omega), pcN_mod n w k (by omega)]
    have : bitN (w % 2 ^ k) n = bitN w n := by
      rw [bitN_tb, bitN_tb, Nat.testBit_mod_two_pow]
      simp [show n < k by omega]
    rw [this]
/-- above bit n the rank hangs on the higher bits and on how many are below -/
theorem rkN_up (a b n : Nat) (hb : a / 2 ^ n = b / 2 ^ n) (hp : pcN n a = pcN n b) (d : Nat) : pcN (n + d) a = pcN (n + d) b ∧ rkN (n + d) a + rkN n b = rkN (n + d) b + rkN n a := by
  induction d with
  | zero => exact ⟨hp, by simp; omega⟩
  | succ d ih =>
    have e : bitN a (n + d) = bitN b (n + d) := by
      unfold bitN
      rw [Nat.pow_add, ← Nat.div_div_eq_div_mul, ← Nat.div_div_eq_div_mul, hb]
    rw [← Nat.add_assoc]
    simp only [pcN, rkN, e, ih.1]
    refine ⟨trivial, ?_⟩
    have := ih.2
    split <;> omega
def rkF : Nat → Nat → Nat
  | 0, _ => 0
  | n + 1, w => rkF n w + if bitN w n = 1 then binF n (pcN n w + 1) else 0
theorem rkN_eq (n w : Nat) : rkN n w = rkF n w := by
  induction n with
  | zero => rfl
  | succ n ih => simp only [rkN, rkF, ih, bin_eq_binF]
theorem gosperF : ∀ m, m < 24 → ∀ k, k < 24 - m → k ≠ 0 →
    rkF (m + k + 1) (2 ^ (m + k) + (2 ^ (k - 1) - 1)) = rkF (m + k + 1) (2 ^ m * (2 ^ k - 1)) + 1 ∧ pcN (m + k + 1) (2 ^ (m + k) + (2 ^ (k - 1) - 1)) = pcN (m + k + 1) (2 ^ m * (2 ^ k - 1)) := by decide +kernel
/-- the lowest run of ones -/
theorem run_odd : ∀ u, u % 2 = 1 → ∃ k h, k ≠ 0 ∧ u = 2 ^ k - 1 + 2 ^ (k + 1) * h := by
  intro u
  induction u using Nat.strongRecOn with
  | _ u ih =>
    intro ho
    by_cases hv : u / 2 % 2 = 1
    · obtain ⟨k, h, hk, e⟩ := ih (u / 2) (by omega) hv
      refine ⟨k + 1, h, by omega, ?_⟩
      have p1 : 2 ^ (k + 1) = 2 * 2 ^ k := by rw [Nat.pow_succ]; omega
      have p2 : 2 ^ (k + 1 + 1) * h = 2 * (2 ^ (k + 1) * h) := by rw [Nat.pow_succ 2 (k + 1), Nat.mul_comm (2 ^ (k + 1)) 2, Nat.mul_assoc]
      have := Nat.two_pow_pos k
      omega
    · exact ⟨1, u / 4, by decide, by omega⟩
theorem run_any : ∀ w, w ≠ 0 → ∃ m k h, k ≠ 0 ∧ w = 2 ^ m * (2 ^ k - 1 + 2 ^ (k + 1) * h) := by
  intro w
  induction w using Nat.strongRecOn with
  | _ w ih =>
    intro h0
    by_cases ho : w % 2 = 1
    · obtain ⟨k, h, hk, e⟩ := run_odd w ho
      exact ⟨0, k, h, hk, by simpa using e⟩
    · obtain ⟨m, k, h, hk, e⟩ := ih (w / 2) (by omega) (by omega)
      refine ⟨m + 1, k, h, hk, ?_⟩
      rw [Nat.pow_succ, Nat.mul_comm (2 ^ m) 2, Nat.mul_assoc, ← e]; omega
/-- the next word of a weight: the rank goes up by one -/
theorem gosper (m k h : Nat) (hk : k ≠ 0) (hle : 2 ^ m * (2 ^ k - 1 + 2 ^ (k + 1) * h) + 2 ^ m < 16777216) :
    let w := 2 ^ m * (2 ^ k - 1 + 2 ^ (k + 1) * h)
    (w ^^^ (w + 2 ^ m)) / 2 ^ m / 4 = 2 ^ (k - 1) - 1 ∧ (w + 2 ^ m) ||| (2 ^ (k - 1) - 1) < 16777216 ∧ rank ((w + 2 ^ m) ||| (2 ^ (k - 1) - 1)) = rank w + 1 := by
  intro w
  have pk : 0 < 2 ^ k := Nat.two_pow_pos k
  have pm : 0 < 2 ^ m := Nat.two_pow_pos m
  have ew : w = 2 ^ (m + k + 1) * h + 2 ^ m * (2 ^ k - 1) := by
    show 2 ^ m * (2 ^ k - 1 + 2 ^ (k + 1) * h) = _
    rw [Nat.mul_add, ← Nat.mul_assoc, ← Nat.pow_add, ← Nat.add_assoc, Nat.add_comm]
  have eup : w + 2 ^ m = 2 ^ (m + k + 1) * h + 2 ^ (m + k) := by
    rw [ew, Nat.add_assoc]; congr 1
    rw [Nat.pow_add, ← Nat.mul_succ]; congr 1; omega
  have l1 : 2 ^ m * (2 ^ k - 1) < 2 ^ (m + k + 1) := by
    have : 2 ^ m * (2 ^ k - 1) < 2 ^ m * 2 ^ k := Nat.mul_lt_mul_of_pos_left (by omega) pm
    rw [← Nat.pow_add] at this
    have := Nat.pow_succ 2 (m + k); omega
  have l2 : 2 ^ (m + k) < 2 ^ (m + k + 1) := Nat.pow_lt_pow_right (by decide) (by omega)
  have hmk : m + k < 24 := by
    have : 2 ^ (m + k) < 2 ^ 24 := by
      have : 2 ^ (m + k) ≤ w + 2 ^ m := by rw [eup]; omega
      exact Nat.lt_of_le_of_lt this hle
    exact (Nat.pow_lt_pow_iff_right (by decide)).1 this
  have hrest : 2 ^ (k - 1) - 1 < 2 ^ (m + k) := by
    have := Nat.pow_le_pow_right (show 0 < 2 by decide) (show k - 1 ≤ m + k by omega)
    have := Nat.two_pow_pos (k - 1)
    omega
  have ex : w ^^^ (w + 2 ^ m) = 2 ^ m * (2 ^ (k + 1) - 1) := by
    have d2 : 2 ^ m * (2 ^ (k + 1) - 1) < 2 ^ (m + k + 1) := by
      have : 2 ^ m * (2 ^ (k + 1) - 1) < 2 ^ m * 2 ^ (k + 1) := Nat.mul_lt_mul_of_pos_left (by have := Nat.two_pow_pos (k + 1); omega) pm
      rw [← Nat.pow_add, ← Nat.add_assoc] at this
      exact this
    apply Nat.eq_of_testBit_eq; intro i
    rw [Nat.testBit_xor, eup, ew, Nat.testBit_two_pow_mul_add _ l1, Nat.testBit_two_pow_mul_add _ l2]
    by_cases hi : i < m + k + 1
    · simp only [if_pos hi]
      rw [Nat.testBit_two_pow, Nat.testBit_two_pow_mul, Nat.testBit_two_pow_mul, Nat.testBit_two_pow_sub_one, Nat.testBit_two_pow_sub_one]
      by_cases h1 : i ≥ m
      · by_cases h2 : m + k = i
        · subst h2; simp
        · have : i - m < k := by omega
          have h3 : i - m < k + 1 := by omega
          simp [h1, h2, this, h3]
      · have : ¬ m + k = i := by omega
        simp [h1, this]
    · simp only [if_neg hi]
      rw [Nat.testBit_lt_two_pow (Nat.lt_of_lt_of_le d2 (Nat.pow_le_pow_right (by decide) (by omega)))]
      simp
  have eor : (w + 2 ^ m) ||| (2 ^ (k - 1) - 1) = 2 ^ (m + k + 1) * h + (2 ^ (m + k) + (2 ^ (k - 1) - 1)) := by
    rw [eup, Nat.two_pow_add_eq_or_of_lt l2, Nat.or_assoc]
    have := Nat.two_pow_add_eq_or_of_lt hrest 1
    rw [Nat.mul_one] at this
    rw [← this]
    rw [Nat.two_pow_add_eq_or_of_lt]
    have := Nat.pow_succ 2 (m + k)
    omega
  refine ⟨?_, ?_, ?_⟩
  · rw [ex, Nat.mul_comm, Nat.mul_div_cancel _ pm]
    obtain ⟨j, rfl⟩ : ∃ j, k = j + 1 := ⟨k - 1, by omega⟩
    have : 2 ^ (j + 1 + 1) = 4 * 2 ^ j := by rw [Nat.pow_succ, Nat.pow_succ]; omega
    have := Nat.two_pow_pos j
    simp only [Nat.add_sub_cancel]
    omega
  · exact Nat.or_lt_two_pow (n := 24) hle (Nat.lt_of_lt_of_le hrest (Nat.pow_le_pow_right (by decide) (by omega)))
  · have hg := gosperF m (by omega) k (by omega) hk
    rw [← rkN_eq, ← rkN_eq] at hg
    have l3 : 2 ^ (m + k) + (2 ^ (k - 1) - 1) < 2 ^ (m + k + 1) := by have := Nat.pow_succ 2 (m + k); omega
    generalize hA : (w + 2 ^ m) ||| (2 ^ (k - 1) - 1) = A at *
    have mA : A % 2 ^ (m + k + 1) = 2 ^ (m + k) + (2 ^ (k - 1) - 1) := by rw [eor, Nat.mul_add_mod, Nat.mod_eq_of_lt l3]
    have mw : w % 2 ^ (m + k + 1) = 2 ^ m * (2 ^ k - 1) := by rw [ew, Nat.mul_add_mod, Nat.mod_eq_of_lt l1]
    have dA : A / 2 ^ (m + k + 1) = h := by rw [eor, Nat.mul_add_div (Nat.two_pow_pos _), Nat.div_eq_of_lt l3, Nat.add_zero]
    have dw : w / 2 ^ (m + k + 1) = h := by rw [ew, Nat.mul_add_div (Nat.two_pow_pos _), Nat.div_eq_of_lt l1, Nat.add_zero]
    have pA : pcN (m + k + 1) A = pcN (m + k + 1) w := by rw [← pcN_mod _ A _ (Nat.le_refl _), ← pcN_mod _ w _ (Nat.le_refl _), mA, mw]; exact hg.2
    have rA : rkN (m + k + 1) A = rkN (m + k + 1) w + 1 := by rw [← rkN_mod _ A _ (Nat.le_refl _), ← rkN_mod _ w _ (Nat.le_refl _), mA, mw]; exact hg.1
    have := (rkN_up A w (m + k + 1) (dA.trans dw.symm) pA (24 - (m + k + 1))).2
    rw [show m + k + 1 + (24 - (m + k + 1)) = 24 by omega] at this
    unfold rank
    omega
/-- the lowest one: what is common with the negative -/
theorem low_and (m u : Nat) (ho : u % 2 = 1) (hlt : 2 ^ m * u < 2 ^ 63) : (2 ^ m * u) &&& (2 ^ 64 - 2 ^ m * u) = 2 ^ m := by
  have pm : 0 < 2 ^ m := Nat.two_pow_pos m
  have hpos : 0 < 2 ^ m * u := Nat.mul_pos pm (by omega)
  have e : 2 ^ 64 - 2 ^ m * u = 2 ^ 64 - ((2 ^ m * u - 1) + 1) := by omega
  have hm : 2 ^ m * u - 1 = 2 ^ m * (u - 1) + (2 ^ m - 1) := by
    have : 2 ^ m * u = 2 ^ m * (u - 1) + 2 ^ m := by rw [← Nat.mul_succ]; congr 1; omega
    omega
  apply Nat.eq_of_testBit_eq; intro i
  rw [Nat.testBit_and, e, Nat.testBit_two_pow_sub_succ (by omega), hm, Nat.testBit_two_pow_mul_add _ (by omega), Nat.testBit_two_pow_mul, Nat.testBit_two_pow, Nat.testBit_two_pow_sub_one]
  by_cases hi : i < m
  · have : ¬ m = i := by omega
    simp [hi, this]
  · by_cases he : m = i
    · subst he
      have m64 : m < 64 := by
        have : 2 ^ m < 2 ^ 63 := Nat.lt_of_le_of_lt (Nat.le_mul_of_pos_right _ (by omega)) hlt
        have := (Nat.pow_lt_pow_iff_right (show 1 < 2 by decide)).1 this
        omega
      simp [m64, Nat.testBit_zero, ho]
      omega
    · have ht : (u - 1).testBit (i - m) = u.testBit (i - m) := by
        obtain ⟨j, hj⟩ : ∃ j, i - m = j + 1 := ⟨i - m - 1, by omega⟩
        rw [hj, Nat.testBit_succ, Nat.testBit_succ]
        congr 1; omega
      simp [hi, he, ht]
      intro _ h2 _; exact h2
end Gol
