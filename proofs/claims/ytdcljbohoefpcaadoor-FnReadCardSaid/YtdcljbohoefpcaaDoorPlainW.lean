/- Plain facts on words of 24 bits: bits, weights, places, sums. No program in sight; no condition. -/
namespace Gol
def bitN (w k : Nat) : Nat := w / 2 ^ k % 2
theorem bitN_lt (w k : Nat) : bitN w k < 2 := Nat.mod_lt _ (by decide)
theorem bitN_tb (w k : Nat) : bitN w k = if w.testBit k then 1 else 0 := by
  unfold bitN
  rw [Nat.testBit_eq_decide_div_mod_eq]
  have := Nat.mod_lt (w / 2 ^ k) (show 0 < 2 by decide)
  by_cases h : w / 2 ^ k % 2 = 1
  · simp [h]
  · simp [h]; omega
theorem tb_bitN (w k : Nat) : w.testBit k = decide (bitN w k = 1) := by rw [Nat.testBit_eq_decide_div_mod_eq]; rfl
/-- the number of ones among the lowest n bits -/
def pcN : Nat → Nat → Nat
  | 0, _ => 0
  | n + 1, w => pcN n w + bitN w n
def pc (w : Nat) : Nat := pcN 24 w
def plN : Nat → Nat → List Nat
  | 0, _ => []
  | n + 1, w => plN n w ++ (if bitN w n = 1 then [n] else [])
def places (w : Nat) : List Nat := plN 24 w
theorem pcN_le (n w : Nat) : pcN n w ≤ n := by
  induction n with
  | zero => exact Nat.le_refl _
  | succ n ih => have := bitN_lt w n; simp only [pcN]; omega
theorem plN_length (n w : Nat) : (plN n w).length = pcN n w := by
  induction n with
  | zero => rfl
  | succ n ih =>
    have := bitN_lt w n
    simp only [plN, pcN, List.length_append, ih]
    by_cases h : bitN w n = 1
    · simp [h]
    · simp [h]; omega
theorem plN_lt (n w : Nat) : ∀ p ∈ plN n w, p < n := by
  induction n with
  | zero => intro p hp; cases hp
  | succ n ih =>
    intro p hp
    simp only [plN, List.mem_append] at hp
    rcases hp with hp | hp
    · have := ih p hp; omega
    · by_cases h : bitN w n = 1
      · simp [h] at hp; omega
      · simp [h] at hp
theorem plN_pairwise (n w : Nat) : (plN n w).Pairwise (· < ·) := by
  induction n with
  | zero => exact List.Pairwise.nil
  | succ n ih =>
    simp only [plN]
    rw [List.pairwise_append]
    refine ⟨ih, ?_, ?_⟩
    · by_cases h : bitN w n = 1 <;> simp [h]
    · intro a ha b hb
      have h1 := plN_lt n w a ha
      by_cases h : bitN w n = 1
      · simp [h] at hb; omega
      · simp [h] at hb
theorem pcN_mod (n w : Nat) : ∀ k, n ≤ k → pcN n (w % 2 ^ k) = pcN n w := by
  induction n with
  | zero => intro k _; rfl
  | succ n ih =>
    intro k hk
    simp only [pcN]
    rw [ih k (by omega)]
    have : bitN (w % 2 ^ k) n = bitN w n := by
      rw [bitN_tb, bitN_tb, Nat.testBit_mod_two_pow]
      simp [show n < k by omega]
    rw [this]
/-- adding a bit that is not there -/
theorem add_bit (a p : Nat) (h : bitN a p = 0) : a + 2 ^ p = a ||| 2 ^ p := by
  have e : a = 2 ^ (p + 1) * (a / 2 ^ (p + 1)) + a % 2 ^ (p + 1) := (Nat.div_add_mod a _).symm
  have hlt : a % 2 ^ (p + 1) < 2 ^ p := by
    have h2 : a % 2 ^ (p + 1) = a % 2 ^ p + 2 ^ p * (a / 2 ^ p % 2) := by
      rw [Nat.pow_succ, Nat.mod_mul]
    unfold bitN at h
    rw [h2, h, Nat.mul_zero, Nat.add_zero]
    exact Nat.mod_lt _ (Nat.two_pow_pos p)
  have hlt2 : a % 2 ^ (p + 1) + 2 ^ p < 2 ^ (p + 1) := by have := Nat.pow_succ 2 p; omega
  have hor : a % 2 ^ (p + 1) + 2 ^ p = 2 ^ p ||| a % 2 ^ (p + 1) := by
    have := Nat.two_pow_add_eq_or_of_lt hlt 1
    rw [Nat.mul_one] at this
    rw [← this]; omega
  have e2 : a + 2 ^ p = 2 ^ (p + 1) * (a / 2 ^ (p + 1)) + (a % 2 ^ (p + 1) + 2 ^ p) := by omega
  rw [e2, Nat.two_pow_add_eq_or_of_lt hlt2, hor]
  conv => rhs; rw [e, Nat.two_pow_add_eq_or_of_lt (Nat.lt_of_lt_of_le hlt (Nat.pow_le_pow_right (by decide) (by omega)))]
  rw [Nat.or_comm (2 ^ p), ← Nat.or_assoc]
theorem bitN_add (a p q : Nat) (h : bitN a p = 0) : bitN (a + 2 ^ p) q = if q = p then 1 else bitN a q := by
  rw [add_bit a p h, bitN_tb, Nat.testBit_or, Nat.testBit_two_pow, bitN_tb]
  by_cases hq : q = p
  · subst hq; simp
  · simp [hq, Ne.symm hq]
theorem pcN_add (a p : Nat) (h : bitN a p = 0) (n : Nat) : pcN n (a + 2 ^ p) = pcN n a + if p < n then 1 else 0 := by
  induction n with
  | zero => simp [pcN]
  | succ n ih =>
    simp only [pcN, ih, bitN_add a p n h]
    by_cases h1 : n = p
    · subst h1; simp; omega
    · have : (p < n + 1) = (p < n) := by apply propext; omega
      simp [h1, this]; omega
theorem bitN_xor (a b k : Nat) : bitN (a ^^^ b) k = (bitN a k + bitN b k) % 2 := by
  rw [bitN_tb, bitN_tb, bitN_tb, Nat.testBit_xor]
  cases a.testBit k <;> cases b.testBit k <;> rfl
theorem bitN_and (a b k : Nat) : bitN (a &&& b) k = bitN a k * bitN b k := by
  rw [bitN_tb, bitN_tb, bitN_tb, Nat.testBit_and]
  cases a.testBit k <;> cases b.testBit k <;> rfl
theorem pcN_xor (a b n : Nat) : pcN n (a ^^^ b) + 2 * pcN n (a &&& b) = pcN n a + pcN n b := by
  induction n with
  | zero => rfl
  | succ n ih =>
    simp only [pcN, bitN_xor, bitN_and]
    have h1 := bitN_lt a n; have h2 := bitN_lt b n
    have : (bitN a n + bitN b n) % 2 + 2 * (bitN a n * bitN b n) = bitN a n + bitN b n := by
      have c1 : bitN a n = 0 ∨ bitN a n = 1 := by omega
      have c2 : bitN b n = 0 ∨ bitN b n = 1 := by omega
      rcases c1 with c1 | c1 <;> rcases c2 with c2 | c2 <;> rw [c1, c2]
    omega
theorem max_bit (k : Nat) (h : k < 24) : bitN 16777215 k = 1 := by
  have : ∀ k, k < 24 → bitN 16777215 k = 1 := by decide
  exact this k h
theorem pcN_not (w n : Nat) (h : n ≤ 24) : pcN n (w ^^^ 16777215) + pcN n w = n := by
  induction n with
  | zero => rfl
  | succ n ih =>
    have i := ih (by omega)
    simp only [pcN, bitN_xor, max_bit n (by omega)]
    have := bitN_lt w n
    omega
theorem xor_lt24 {a b : Nat} (ha : a < 16777216) (hb : b < 16777216) : a ^^^ b < 16777216 := Nat.xor_lt_two_pow (n := 24) ha hb
theorem and_lt24 {a b : Nat} (hb : b < 16777216) : a &&& b < 16777216 := Nat.and_lt_two_pow (n := 24) a hb
/-- what is of a and not of b -/
def less (a b : Nat) : Nat := a ^^^ (a &&& b)
theorem less_lt24 {a b : Nat} (ha : a < 16777216) : less a b < 16777216 := xor_lt24 ha (by rw [Nat.and_comm]; exact and_lt24 ha)
theorem meet_less (a b : Nat) : (a &&& b) ^^^ less a b = a := by
  apply Nat.eq_of_testBit_eq; intro i
  simp only [less, Nat.testBit_xor, Nat.testBit_and]
  cases a.testBit i <;> cases b.testBit i <;> rfl
theorem less_meet (a b : Nat) : less a b &&& b = 0 := by
  apply Nat.eq_of_testBit_eq; intro i
  simp only [less, Nat.testBit_xor, Nat.testBit_and, Nat.zero_testBit]
  cases a.testBit i <;> cases b.testBit i <;> rfl
theorem less_meet' (a b : Nat) : less a b &&& a = less a b := by
  apply Nat.eq_of_testBit_eq; intro i
  simp only [less, Nat.testBit_xor, Nat.testBit_and]
  cases a.testBit i <;> cases b.testBit i <;> rfl
/-- the word of a list of places, one by one: 'none' where one is no place or stands twice -/
def ofL : Nat → List Int → Option Nat
  | acc, [] => some acc
  | acc, p :: ps => if 0 ≤ p ∧ p ≤ 23 ∧ bitN acc p.toNat = 0 then ofL (acc + 2 ^ p.toNat) ps else none
theorem lt24_add (a p : Nat) (ha : a < 16777216) (hp : p < 24) (h : bitN a p = 0) : a + 2 ^ p < 16777216 := by
  rw [add_bit a p h]
  exact Nat.or_lt_two_pow (n := 24) ha (Nat.pow_lt_pow_right (by decide) hp)
theorem ofL_lt (l : List Int) : ∀ a v, a < 16777216 → ofL a l = some v → v < 16777216 := by
  induction l with
  | nil => intro a v ha h; simp [ofL] at h; omega
  | cons p ps ih =>
    intro a v ha h
    simp only [ofL] at h
    split at h
    · rename_i hc; exact ih _ _ (lt24_add a _ ha (by omega) hc.2.2) h
    · cases h
theorem ofL_pc (l : List Int) : ∀ a v, ofL a l = some v → pc v = pc a + l.length := by
  induction l with
  | nil => intro a v h; simp [ofL] at h; subst h; rfl
  | cons p ps ih =>
    intro a v h
    simp only [ofL] at h
    split at h
    · rename_i hc
      rw [ih _ _ h]
      unfold pc
      rw [pcN_add a _ hc.2.2, if_pos (by omega)]
      simp; omega
    · cases h
theorem ofL_snoc (l : List Int) (q : Int) : ∀ a, ofL a (l ++ [q]) = (ofL a l).bind fun v => ofL v [q] := by
  induction l with
  | nil => intro a; rfl
  | cons p ps ih =>
    intro a
    simp only [List.cons_append, ofL]
    split
    · exact ih _
    · rfl
/-- two places may change their turns -/
theorem ofL_swap (a : Nat) (p q : Int) (l : List Int) : ofL a (p :: q :: l) = ofL a (q :: p :: l) := by
  simp only [ofL]
  by_cases hp : 0 ≤ p ∧ p ≤ 23 ∧ bitN a p.toNat = 0
  · by_cases hq : 0 ≤ q ∧ q ≤ 23 ∧ bitN a q.toNat = 0
    · rw [if_pos hp, if_pos hq]
      by_cases he : p = q
      · subst he; rfl
      · have hne : p.toNat ≠ q.toNat := by omega
        have h1 : 0 ≤ q ∧ q ≤ 23 ∧ bitN (a + 2 ^ p.toNat) q.toNat = 0 := ⟨hq.1, hq.2.1, by rw [bitN_add _ _ _ hp.2.2, if_neg (Ne.symm hne)]; exact hq.2.2⟩
        have h2 : 0 ≤ p ∧ p ≤ 23 ∧ bitN (a + 2 ^ q.toNat) p.toNat = 0 := ⟨hp.1, hp.2.1, by rw [bitN_add _ _ _ hq.2.2, if_neg hne]; exact hp.2.2⟩
        rw [if_pos h1, if_pos h2]
        congr 1; omega
    · rw [if_pos hp, if_neg hq]
      by_cases hr : 0 ≤ q ∧ q ≤ 23 ∧ bitN (a + 2 ^ p.toNat) q.toNat = 0
      · exfalso; apply hq; refine ⟨hr.1, hr.2.1, ?_⟩
        have := hr.2.2
        rw [bitN_add _ _ _ hp.2.2] at this
        split at this
        · cases this
        · exact this
      · rw [if_neg hr]
  · rw [if_neg hp]
    by_cases hq : 0 ≤ q ∧ q ≤ 23 ∧ bitN a q.toNat = 0
    · rw [if_pos hq]
      by_cases hr : 0 ≤ p ∧ p ≤ 23 ∧ bitN (a + 2 ^ q.toNat) p.toNat = 0
      · exfalso; apply hp; refine ⟨hr.1, hr.2.1, ?_⟩
        have := hr.2.2
        rw [bitN_add _ _ _ hq.2.2] at this
        split at this
        · cases this
        · exact this
      · rw [if_neg hr]
    · rw [if_neg hq]
theorem ofL_perm {l l' : List Int} (h : l.Perm l') : ∀ a, ofL a l = ofL a l' := by
  induction h with
  | nil => intro a; rfl
  | cons p _ ih => intro a; simp only [ofL]; split <;> simp [ih]
  | swap p q l => intro a; exact ofL_swap a q p l
  | trans _ _ ih1 ih2 => intro a; rw [ih1, ih2]
theorem ofL_reverse (l : List Int) (a : Nat) : ofL a l.reverse = ofL a l := ofL_perm (List.reverse_perm l) a
/-- places make the word -/
theorem ofL_plN (n w : Nat) (hn : n ≤ 24) : ofL 0 ((plN n w).map Int.ofNat) = some (w % 2 ^ n) := by
  induction n with
  | zero => simp [plN, ofL, Nat.mod_one]
  | succ n ih =>
    have i := ih (by omega)
    have hs : w % 2 ^ (n + 1) = w % 2 ^ n + 2 ^ n * bitN w n := by rw [Nat.pow_succ, Nat.mod_mul]; rfl
    simp only [plN, List.map_append]
    by_cases h : bitN w n = 1
    · rw [if_pos h]
      simp only [List.map_cons, List.map_nil]
      rw [ofL_snoc, i]
      simp only [Option.bind_some, ofL]
      have hb : bitN (w % 2 ^ n) n = 0 := by rw [bitN_tb, Nat.testBit_mod_two_pow]; simp
      rw [if_pos ⟨Int.natCast_nonneg _, by simp; omega, by simpa using hb⟩, hs, h]
      simp
    · have h0 : bitN w n = 0 := by have := bitN_lt w n; omega
      rw [if_neg h]
      simp only [List.map_nil, List.append_nil]
      rw [i, hs, h0]; simp
theorem ofL_places (w : Nat) (h : w < 16777216) : ofL 0 ((places w).map Int.ofNat) = some w := by
  unfold places
  rw [ofL_plN 24 w (by decide), Nat.mod_eq_of_lt h]
end Gol
