/- The count of ones by sums of fields (as math/bits reckons it) is the count of ones. Plain; no condition. -/
import Derived.Test.YtdcljbohoefpcaaDoorPlainW
namespace Gol
/-- masks of fields: the low s bits of every 2 s, k times -/
def msk (s : Nat) : Nat → Nat
  | 0 => 0
  | k + 1 => (2 ^ s - 1) + 2 ^ (2 * s) * msk s k
def sel (s : Nat) : Nat → Nat → Nat
  | 0, _ => 0
  | k + 1, n => n % 2 ^ s + 2 ^ (2 * s) * sel s k (n / 2 ^ (2 * s))
theorem and_split (t a m M : Nat) (hm : m < 2 ^ t) : a &&& (m + 2 ^ t * M) = (a % 2 ^ t &&& m) + 2 ^ t * (a / 2 ^ t &&& M) := by
  have h1 : (a % 2 ^ t &&& m) < 2 ^ t := Nat.and_lt_two_pow _ hm
  apply Nat.eq_of_testBit_eq; intro i
  rw [Nat.testBit_and, Nat.add_comm m, Nat.testBit_two_pow_mul_add _ hm, Nat.add_comm (a % 2 ^ t &&& m), Nat.testBit_two_pow_mul_add _ h1]
  by_cases hi : i < t
  · simp [hi, Nat.testBit_and, Nat.testBit_mod_two_pow]
  · simp [hi, Nat.testBit_and, Nat.testBit_div_two_pow, show i - t + t = i by omega]
theorem and_msk (s k : Nat) (hs : 0 < s) : ∀ n, n &&& msk s k = sel s k n := by
  induction k with
  | zero => intro n; simp [msk, sel]
  | succ k ih =>
    intro n
    have hlt : 2 ^ s - 1 < 2 ^ (2 * s) := by
      have := Nat.pow_le_pow_right (show 0 < 2 by decide) (show s ≤ 2 * s by omega)
      have := Nat.two_pow_pos s
      omega
    simp only [msk, sel]
    rw [and_split _ _ _ _ hlt, ih, Nat.and_two_pow_sub_one_eq_mod]
    congr 1
    exact Nat.mod_mod_of_dvd _ ⟨2 ^ s, by rw [← Nat.pow_add]; congr 1; omega⟩
theorem and5 (x : Nat) (h : x < 16777216) : x &&& 6148914691236517205 = sel 1 12 x := by
  rw [← and_msk 1 12 (by decide), show (6148914691236517205 : Nat) = 5592405 + 2 ^ 24 * 366503875925 by decide, and_split _ _ _ _ (by decide), Nat.mod_eq_of_lt (show x < 2 ^ 24 by omega),
    Nat.div_eq_of_lt (show x < 2 ^ 24 by omega)]
  simp [msk]
theorem and3 (x : Nat) (h : x < 16777216) : x &&& 3689348814741910323 = sel 2 6 x := by
  rw [← and_msk 2 6 (by decide), show (3689348814741910323 : Nat) = 3355443 + 2 ^ 24 * 219902325555 by decide, and_split _ _ _ _ (by decide), Nat.mod_eq_of_lt (show x < 2 ^ 24 by omega),
    Nat.div_eq_of_lt (show x < 2 ^ 24 by omega)]
  simp [msk]
theorem and0f (x : Nat) (h : x < 16777216) : x &&& 1085102592571150095 = sel 4 3 x := by
  rw [← and_msk 4 3 (by decide), show (1085102592571150095 : Nat) = 986895 + 2 ^ 24 * 64677154575 by decide, and_split _ _ _ _ (by decide), Nat.mod_eq_of_lt (show x < 2 ^ 24 by omega),
    Nat.div_eq_of_lt (show x < 2 ^ 24 by omega)]
  simp [msk]
def s1 (x : Nat) : Nat := (x / 2 &&& 6148914691236517205) + (x &&& 6148914691236517205)
def s2 (x : Nat) : Nat := (x / 4 &&& 3689348814741910323) + (x &&& 3689348814741910323)
def s3 (x : Nat) : Nat := (x / 16 + x) &&& 1085102592571150095
def swar (x : Nat) : Nat :=
  let a := s3 (s2 (s1 x))
  let b := a + a / 256
  let c := b + b / 65536
  let d := c + c / 4294967296
  d % 128
theorem bitN_div (n a k : Nat) : bitN (n / 2 ^ a) k = bitN n (a + k) := by
  unfold bitN; rw [Nat.div_div_eq_div_mul, ← Nat.pow_add]
theorem pcN_split (a b n : Nat) : pcN (a + b) n = pcN a n + pcN b (n / 2 ^ a) := by
  induction b with
  | zero => rfl
  | succ b ih => rw [← Nat.add_assoc]; simp only [pcN]; rw [ih, bitN_div]; omega
def P1 : Nat → Nat → Nat
  | 0, _ => 0
  | k + 1, n => pcN 2 n + 4 * P1 k (n / 4)
def P2 : Nat → Nat → Nat
  | 0, _ => 0
  | k + 1, n => pcN 4 n + 16 * P2 k (n / 16)
def P3 : Nat → Nat → Nat
  | 0, _ => 0
  | k + 1, n => pcN 8 n + 256 * P3 k (n / 256)
theorem pc2 (n : Nat) : pcN 2 n = n % 2 + n / 2 % 2 := by simp [pcN, bitN]
theorem st1 (k : Nat) : ∀ n, sel 1 k (n / 2) + sel 1 k n = P1 k n := by
  induction k with
  | zero => intro n; rfl
  | succ k ih =>
    intro n
    simp only [sel, P1, pc2]
    have := ih (n / 4)
    rw [show n / 2 / 2 ^ (2 * 1) = n / 4 / 2 by omega, show n / 2 ^ (2 * 1) = n / 4 by omega]
    omega
theorem st2 (k : Nat) : ∀ n, sel 2 k (P1 (2 * k) n / 4) + sel 2 k (P1 (2 * k) n) = P2 k n := by
  induction k with
  | zero => intro n; rfl
  | succ k ih =>
    intro n
    rw [show 2 * (k + 1) = 2 * k + 1 + 1 by omega]
    simp only [sel, P1, P2]
    have := ih (n / 16)
    rw [show n / 4 / 4 = n / 16 by omega]
    have a1 := pcN_le 2 n
    have a2 := pcN_le 2 (n / 4)
    have a3 : pcN 4 n = _ := pcN_split 2 2 n
    rw [show n / 2 ^ 2 = n / 4 by omega] at a3
    generalize P1 (2 * k) (n / 16) = y at *
    generalize pcN 2 n = u at *
    generalize pcN 2 (n / 4) = v at *
    rw [show (u + 4 * (v + 4 * y)) / 4 / 2 ^ (2 * 2) = y / 4 by omega, show (u + 4 * (v + 4 * y)) / 2 ^ (2 * 2) = y by omega]
    omega
theorem P2_lt (k : Nat) : ∀ n, P2 k n % 16 ≤ 4 := by
  intro n
  cases k with
  | zero => simp [P2]
  | succ k => simp only [P2]; have := pcN_le 4 n; omega
theorem st3 (k : Nat) : ∀ n, sel 4 k (P2 (2 * k) n / 16 + P2 (2 * k) n) = P3 k n := by
  induction k with
  | zero => intro n; rfl
  | succ k ih =>
    intro n
    rw [show 2 * (k + 1) = 2 * k + 1 + 1 by omega]
    simp only [sel, P2, P3]
    have := ih (n / 256)
    rw [show n / 16 / 16 = n / 256 by omega]
    have a1 := pcN_le 4 n
    have a2 := pcN_le 4 (n / 16)
    have a3 : pcN 8 n = _ := pcN_split 4 4 n
    rw [show n / 2 ^ 4 = n / 16 by omega] at a3
    have a4 := P2_lt (2 * k) (n / 256)
    generalize P2 (2 * k) (n / 256) = y at *
    generalize pcN 4 n = u at *
    generalize pcN 4 (n / 16) = v at *
    rw [show ((u + 16 * (v + 16 * y)) / 16 + (u + 16 * (v + 16 * y))) / 2 ^ (2 * 4) = y / 16 + y by omega]
    omega
theorem P1_lt (n : Nat) : P1 12 n < 16777216 := by
  have h : ∀ k n, P1 k n < 4 ^ k := by
    intro k
    induction k with
    | zero => intro n; simp [P1]
    | succ k ih => intro n; have := ih (n / 4); have := pcN_le 2 n; simp only [P1, Nat.pow_succ]; omega
  exact h 12 n
theorem P2_bd (n : Nat) : P2 6 n < 5592406 := by
  have h : ∀ k n, 3 * P2 k n ≤ 16 ^ k - 1 := by
    intro k
    induction k with
    | zero => intro n; simp [P2]
    | succ k ih => intro n; have := ih (n / 16); have := pcN_le 4 n; have := Nat.pow_pos (n := k) (show 0 < 16 by decide); simp only [P2, Nat.pow_succ]; omega
  have := h 6 n
  omega
theorem s1_eq (x : Nat) (h : x < 16777216) : s1 x = P1 12 x := by unfold s1; rw [and5 _ (by omega), and5 _ h, st1]
theorem s1_lt (x : Nat) (h : x < 16777216) : s1 x < 16777216 := by rw [s1_eq x h]; exact P1_lt x
theorem s2_eq (x : Nat) (h : x < 16777216) : s2 (s1 x) = P2 6 x := by
  have b1 := P1_lt x
  rw [s1_eq x h]; unfold s2; rw [and3 _ (by omega), and3 _ b1]; exact st2 6 x
theorem s2_lt (x : Nat) (h : x < 16777216) : s2 (s1 x) < 8388608 := by rw [s2_eq x h]; have := P2_bd x; omega
theorem s3_eq (x : Nat) (h : x < 16777216) : s3 (s2 (s1 x)) = P3 3 x := by
  have b2 := P2_bd x
  rw [s2_eq x h]; unfold s3; rw [and0f _ (by omega)]; exact st3 3 x
theorem s3_lt (x : Nat) (h : x < 16777216) : s3 (s2 (s1 x)) < 16777216 := by
  have b2 := s2_lt x h
  unfold s3
  rw [and0f _ (by omega), ← and_msk 4 3 (by decide)]
  exact Nat.and_lt_two_pow (n := 24) _ (by decide)
theorem swar_eq (x : Nat) (h : x < 16777216) : swar x = pc x := by
  have e3 := s3_eq x h
  have c1 : pc x = pcN 8 x + (pcN 8 (x / 256) + pcN 8 (x / 256 / 256)) := by
    unfold pc
    rw [show 24 = 8 + (8 + 8) by rfl, pcN_split, pcN_split]
  have d1 := pcN_le 8 x; have d2 := pcN_le 8 (x / 256); have d3 := pcN_le 8 (x / 256 / 256)
  unfold swar
  rw [e3, c1]
  simp only [P3]
  generalize pcN 8 x = a at *
  generalize pcN 8 (x / 256) = b at *
  generalize pcN 8 (x / 256 / 256) = c at *
  have f1 : (a + 256 * (b + 256 * (c + 256 * 0))) / 256 = b + 256 * c := by omega
  rw [f1]
  have f2 : (a + 256 * (b + 256 * (c + 256 * 0)) + (b + 256 * c)) / 65536 = c := by omega
  rw [f2]
  have f3 : (a + 256 * (b + 256 * (c + 256 * 0)) + (b + 256 * c) + c) / 4294967296 = 0 := by omega
  rw [f3]
  omega
end Gol
