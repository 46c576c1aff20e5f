/- How texts of words are read, by signs and by rows. No program in sight; no condition. -/
import Derived.Test.YtdcljbohoefpcaaDoorPlainT
import Derived.Lib.SplitLaws
import Derived.Lib.IndexBytes
namespace Gol
open Go.Lib
/-- the sign at place i of a text -/
def txtAt (n i : Nat) : UInt8 := if i % 7 = 6 then 47 else ch n (4 * (i % 7) + i / 7)
theorem txt_list (n : Nat) : txt n 4 = (List.range 27).map (txtAt n) := rfl
theorem txt_at (n i : Nat) (h : i < 27) : (txt n 4)[i]? = some (txtAt n i) := by
  rw [txt_list, List.getElem?_map, List.getElem?_range h]; rfl
/-- the value of the first i signs -/
def specV (l : List UInt8) : Nat → Nat
  | 0 => 0
  | i + 1 => if i % 7 < 6 ∧ l[i]? = some 120 then specV l i + 2 ^ (4 * (i % 7) + i / 7) else specV l i
def okc (l : List UInt8) (i : Nat) : Prop := (i % 7 = 6 → l[i]? = some 47) ∧ (i % 7 < 6 → l[i]? = some 120 ∨ l[i]? = some 46)
def AllOk (l : List UInt8) : Prop := l.length = 27 ∧ ∀ i, i < 27 → okc l i
theorem bitN_zero (p : Nat) : bitN 0 p = 0 := by simp [bitN]
theorem specV_bit (l : List UInt8) : ∀ i, i ≤ 27 → ∀ p, p < 24 → bitN (specV l i) p = if 7 * (p % 4) + p / 4 < i ∧ l[7 * (p % 4) + p / 4]? = some 120 then 1 else 0
  | 0, _, p, _ => by rw [specV, bitN_zero, if_neg (fun h => Nat.not_lt_zero _ h.1)]
  | i + 1, hi, p, hp => by
    have ih := specV_bit l i (by omega)
    unfold specV
    split
    · rename_i h
      have h0 : bitN (specV l i) (4 * (i % 7) + i / 7) = 0 := by
        rw [ih _ (by omega), if_neg]
        intro hh
        omega
      rw [bitN_add _ _ _ h0]
      split
      · rename_i e
        rw [if_pos]
        have e2 : 7 * (p % 4) + p / 4 = i := by omega
        rw [e2]
        exact ⟨by omega, h.2⟩
      · rename_i e
        have e2 : 7 * (p % 4) + p / 4 ≠ i := by omega
        rw [ih p hp]
        by_cases hl : 7 * (p % 4) + p / 4 < i
        · have : 7 * (p % 4) + p / 4 < i + 1 := by omega
          simp [hl, this]
        · have : ¬ 7 * (p % 4) + p / 4 < i + 1 := by omega
          simp [hl, this]
    · rename_i h
      rw [ih p hp]
      by_cases e2 : 7 * (p % 4) + p / 4 = i
      · rw [e2, if_neg (by omega), if_neg]
        intro hh
        exact h ⟨by omega, hh.2⟩
      · by_cases hl : 7 * (p % 4) + p / 4 < i
        · have : 7 * (p % 4) + p / 4 < i + 1 := by omega
          simp [hl, this]
        · have : ¬ 7 * (p % 4) + p / 4 < i + 1 := by omega
          simp [hl, this]
theorem specV_lt (l : List UInt8) : ∀ i, i ≤ 27 → specV l i < 16777216
  | 0, _ => (by decide : 0 < 16777216)
  | i + 1, hi => by
    have ih := specV_lt l i (by omega)
    unfold specV
    split
    · rename_i h
      have h0 : bitN (specV l i) (4 * (i % 7) + i / 7) = 0 := by
        rw [specV_bit l i (by omega) _ (by omega), if_neg]
        intro hh
        omega
      exact lt24_add _ _ ih (by omega) h0
    · exact ih
theorem eq_of_bits {a b : Nat} (ha : a < 16777216) (hb : b < 16777216) (h : ∀ p, p < 24 → bitN a p = bitN b p) : a = b := by
  apply Nat.eq_of_testBit_eq
  intro p
  by_cases hp : p < 24
  · rw [tb_bitN, tb_bitN, h p hp]
  · have e : 16777216 ≤ 2 ^ p := Nat.le_trans (by decide : 16777216 ≤ 2 ^ 24) (Nat.pow_le_pow_right (by decide) (by omega))
    rw [Nat.testBit_lt_two_pow (Nat.lt_of_lt_of_le ha e), Nat.testBit_lt_two_pow (Nat.lt_of_lt_of_le hb e)]
/-- a text whose signs are all in order is the text of its value -/
theorem text_of_ok (l : List UInt8) (h : AllOk l) : l = txt (specV l 27) 4 := by
  apply List.ext_getElem?
  intro i
  by_cases hi : i < 27
  · rw [txt_at _ i hi]
    obtain ⟨h1, h2⟩ := h.2 i hi
    unfold txtAt
    split
    · rename_i e; exact h1 e
    · rename_i e
      have hb := specV_bit l 27 (Nat.le_refl _) (4 * (i % 7) + i / 7) (by omega)
      have e2 : 7 * ((4 * (i % 7) + i / 7) % 4) + (4 * (i % 7) + i / 7) / 4 = i := by omega
      rw [e2] at hb
      unfold ch
      rcases h2 (by omega) with h3 | h3
      · rw [h3] at hb ⊢
        rw [if_pos]
        rw [hb, if_pos ⟨hi, rfl⟩]
      · rw [h3] at hb ⊢
        rw [if_neg]
        rw [hb, if_neg (fun h => by simp at h)]
        decide
  · rw [List.getElem?_eq_none (by rw [h.1]; omega), List.getElem?_eq_none (by rw [txt_four]; omega)]
theorem ch_cases (n p : Nat) : ch n p = 120 ∧ bitN n p = 1 ∨ ch n p = 46 ∧ bitN n p = 0 := by
  have := bitN_lt n p
  unfold ch
  split
  · rename_i e; exact .inl ⟨rfl, e⟩
  · rename_i e; exact .inr ⟨rfl, by omega⟩
theorem ok_of_text (n : Nat) : AllOk (txt n 4) := by
  refine ⟨txt_four n, fun i hi => ?_⟩
  unfold okc
  rw [txt_at n i hi]
  unfold txtAt
  refine ⟨fun e => by rw [if_pos e], fun e => ?_⟩
  rw [if_neg (by omega)]
  rcases ch_cases n (4 * (i % 7) + i / 7) with ⟨e, _⟩ | ⟨e, _⟩ <;> rw [e]
  · exact .inl rfl
  · exact .inr rfl
theorem specV_text (n : Nat) (hn : n < 16777216) : specV (txt n 4) 27 = n := by
  refine eq_of_bits (specV_lt _ 27 (Nat.le_refl _)) hn fun p hp => ?_
  rw [specV_bit _ 27 (Nat.le_refl _) p hp, txt_at n _ (by omega)]
  unfold txtAt
  rw [if_neg (by omega : ¬ (7 * (p % 4) + p / 4) % 7 = 6)]
  have e : 4 * ((7 * (p % 4) + p / 4) % 7) + (7 * (p % 4) + p / 4) / 7 = p := by omega
  rw [e]
  rcases ch_cases n p with ⟨e1, e2⟩ | ⟨e1, e2⟩ <;> rw [e1, e2]
  · rw [if_pos ⟨by omega, rfl⟩]
  · rw [if_neg (fun h => by simp at h)]
/-- a row's marks, the first c signs -/
def orRow (r : Nat) (l : List UInt8) (v : Nat) : Nat → Nat
  | 0 => v
  | c + 1 => if l[c]? = some 120 ∧ r < 4 ∧ c < 6 then orRow r l v c ||| 2 ^ (4 * c + r) else orRow r l v c
/-- the marks of the first r rows -/
def orAll (rows : List (List UInt8)) : Nat → Nat
  | 0 => 0
  | r + 1 => orRow r (rows[r]?.getD []) (orAll rows r) (rows[r]?.getD []).length
theorem orRow_lt (r : Nat) (l : List UInt8) (v : Nat) (hv : v < 16777216) : ∀ c, orRow r l v c < 16777216
  | 0 => hv
  | c + 1 => by
    unfold orRow
    split
    · rename_i h
      exact Nat.or_lt_two_pow (n := 24) (orRow_lt r l v hv c) (Nat.pow_lt_pow_right (by decide) (by omega))
    · exact orRow_lt r l v hv c
theorem orAll_lt (rows : List (List UInt8)) : ∀ r, orAll rows r < 16777216
  | 0 => (by decide : 0 < 16777216)
  | r + 1 => orRow_lt _ _ _ (orAll_lt rows r) _
theorem orRow_bit (r : Nat) (l : List UInt8) (v : Nat) (hr : r < 4) (q : Nat) (hq : q < 24) : ∀ c, (orRow r l v c).testBit q = (v.testBit q || decide (q % 4 = r ∧ q / 4 < c ∧ l[q / 4]? = some 120))
  | 0 => by simp [orRow]
  | c + 1 => by
    have ih := orRow_bit r l v hr q hq c
    unfold orRow
    by_cases e : q = 4 * c + r
    · have e1 : q % 4 = r := by omega
      have e2 : q / 4 = c := by omega
      rw [e2] at ih ⊢
      split
      · rename_i h
        rw [Nat.testBit_or, ih, ← e, Nat.testBit_two_pow_self]
        simp [h.1, e1]
      · rename_i h
        rw [ih]
        have h2 : l[c]? ≠ some 120 := fun h3 => h ⟨h3, hr, by omega⟩
        simp [h2]
    · have hc : (q % 4 = r ∧ q / 4 < c ∧ l[q / 4]? = some 120) ↔ (q % 4 = r ∧ q / 4 < c + 1 ∧ l[q / 4]? = some 120) := by
        constructor
        · rintro ⟨a, b, d⟩; exact ⟨a, by omega, d⟩
        · rintro ⟨a, b, d⟩; exact ⟨a, by omega, d⟩
      split
      · rw [Nat.testBit_or, Nat.testBit_two_pow_of_ne (fun h => e h.symm), Bool.or_false, ih, decide_eq_decide.2 hc]
      · rw [ih, decide_eq_decide.2 hc]
theorem rowT_at (n r : Nat) : ∀ k i, i < k → (rowT n r k)[i]? = some (ch n (4 * i + r))
  | 0, _, h => absurd h (Nat.not_lt_zero _)
  | k + 1, i, h => by
    unfold rowT
    by_cases e : i < k
    · rw [List.getElem?_append_left (by rw [rowT_len]; exact e)]
      exact rowT_at n r k i e
    · have e2 : i = k := by omega
      subst e2
      rw [List.getElem?_append_right (by rw [rowT_len]; exact Nat.le_refl _), rowT_len, Nat.sub_self]
      rfl
/-- the rows of a text, as lists of signs -/
def rowsL (n : Nat) : List (List UInt8) := [rowT n 0 6, rowT n 1 6, rowT n 2 6, rowT n 3 6]
theorem rowsL_at (n r : Nat) (h : r < 4) : (rowsL n)[r]? = some (rowT n r 6) := by
  rcases (by omega : r = 0 ∨ r = 1 ∨ r = 2 ∨ r = 3) with rfl | rfl | rfl | rfl <;> rfl
theorem orAll_bit (n : Nat) (q : Nat) (hq : q < 24) : ∀ r, r ≤ 4 → (orAll (rowsL n) r).testBit q = decide (q % 4 < r ∧ bitN n q = 1)
  | 0, _ => by simp [orAll]
  | r + 1, hr => by
    have ih := orAll_bit n q hq r (by omega)
    unfold orAll
    rw [rowsL_at n r (by omega), Option.getD_some, rowT_len, orRow_bit r _ _ (by omega) q hq, ih, rowT_at n r 6 (q / 4) (by omega)]
    have := bitN_lt n q
    by_cases e : q % 4 = r
    · have e2 : 4 * (q / 4) + r = q := by omega
      rw [e2]
      rcases ch_cases n q with ⟨e3, e4⟩ | ⟨e3, e4⟩ <;> rw [e3, e4]
      · have e5 : q / 4 < 6 := by omega
        simp [e, e5]
      · simp
    · have e6 : (q % 4 < r) ↔ (q % 4 < r + 1) := by omega
      simp only [e, false_and, decide_false, Bool.or_false]
      rw [decide_eq_decide.2 (and_congr_left' e6)]
theorem orAll_text (n : Nat) (hn : n < 16777216) : orAll (rowsL n) 4 = n := by
  refine eq_of_bits (orAll_lt _ 4) hn fun p hp => ?_
  rw [bitN_tb, orAll_bit n p hp 4 (Nat.le_refl _)]
  have := bitN_lt n p
  have e : p % 4 < 4 := by omega
  by_cases h : bitN n p = 1
  · simp [h, e]
  · have : bitN n p = 0 := by omega
    simp [this]
theorem indexByte_at (c : UInt8) (m : List UInt8) : ∀ a : List UInt8, (∀ x ∈ a, x ≠ c) → indexByte (a ++ c :: m) c = a.length
  | [], _ => by simp [indexByte]
  | b :: a, h => by
    have ih := indexByte_at c m a (fun x hx => h x (List.mem_cons_of_mem _ hx))
    have hb : (b == c) = false := beq_eq_false_iff_ne.2 (h b (List.mem_cons_self ..))
    rw [List.cons_append, indexByte, hb, ih]
    have h1 : ((a.length : Int) == -1) = false := beq_eq_false_iff_ne.2 (by omega)
    rw [h1]
    simp
theorem indexByte_no (c : UInt8) : ∀ a : List UInt8, (∀ x ∈ a, x ≠ c) → indexByte a c = -1
  | [], _ => rfl
  | b :: a, h => by
    have ih := indexByte_no c a (fun x hx => h x (List.mem_cons_of_mem _ hx))
    have hb : (b == c) = false := beq_eq_false_iff_ne.2 (h b (List.mem_cons_self ..))
    rw [indexByte, hb, ih]
    rfl
theorem rowT_no (n r : Nat) : ∀ k, ∀ x ∈ rowT n r k, x ≠ 47
  | 0, x, h => by simp [rowT] at h
  | k + 1, x, h => by
    rw [rowT, List.mem_append, List.mem_singleton] at h
    rcases h with h | rfl
    · exact rowT_no n r k x h
    · rcases ch_cases n (4 * k + r) with ⟨e, _⟩ | ⟨e, _⟩ <;> rw [e] <;> decide
theorem split_hit (a m : List UInt8) (h : ∀ x ∈ a, x ≠ 47) (k : Nat) : splitK [47] 0 (k + 1) (a ++ 47 :: m) = a :: splitK [47] 0 k m := by
  have hx : index (a ++ 47 :: m) [47] = a.length := by rw [index_one, indexByte_at 47 m a h]
  rw [splitK, hx]
  have h1 : ((a.length : Int) == -1) = false := beq_eq_false_iff_ne.2 (by omega)
  rw [h1]
  have h2 : ((a.length : Int).toNat + 0) = a.length := by omega
  have h3 : ((a.length : Int).toNat + [(47 : UInt8)].length) = a.length + 1 := by simp
  rw [h2, h3, List.take_left' rfl]
  simp
theorem count_hit1 (a m : List UInt8) (h : ∀ x ∈ a, x ≠ 47) : count (a ++ 47 :: m) [47] = 1 + count m [47] := by
  have hx : index (a ++ 47 :: m) [47] = a.length := by rw [index_one, indexByte_at 47 m a h]
  rw [count_hit (by simp) hx]
  simp
theorem count_no1 (a : List UInt8) (h : ∀ x ∈ a, x ≠ 47) : count a [47] = 0 := count_miss (by rw [index_one, indexByte_no 47 a h])
theorem txt_rows (n : Nat) : txt n 4 = rowT n 0 6 ++ 47 :: (rowT n 1 6 ++ 47 :: (rowT n 2 6 ++ 47 :: rowT n 3 6)) := by
  simp [txt]
theorem count_txt (n : Nat) : count (txt n 4) [47] = 3 := by
  rw [txt_rows, count_hit1 _ _ (rowT_no n 0 6), count_hit1 _ _ (rowT_no n 1 6), count_hit1 _ _ (rowT_no n 2 6), count_no1 _ (rowT_no n 3 6)]
theorem split_txt (n : Nat) : split (txt n 4) [47] = rowsL n := by
  unfold split
  rw [count_txt, txt_rows, split_hit _ _ (rowT_no n 0 6), split_hit _ _ (rowT_no n 1 6), split_hit _ _ (rowT_no n 2 6)]
  rfl
end Gol
