/- The words of the code that are nearest to a word: the list in the messages' order, and the sorted one. No condition. -/
import Derived.Test.YtompdebingllmaaPlainF
namespace Gol
def nearI (w : Nat) : Nat → List Nat × Nat
  | 0 => ([], 25)
  | m + 1 => if pc (w ^^^ enc m) < (nearI w m).2 then ([enc m], pc (w ^^^ enc m)) else if pc (w ^^^ enc m) = (nearI w m).2 then ((nearI w m).1 ++ [enc m], (nearI w m).2) else nearI w m
def posK (x : Nat) (l : List Nat) : Nat → Nat
  | 0 => 0
  | k + 1 => if x < l.getD k 0 then posK x l k else k + 1
def insS (x : Nat) (l : List Nat) : List Nat := l.take (posK x l l.length) ++ x :: l.drop (posK x l l.length)
def nearS (w : Nat) : Nat → List Nat × Nat
  | 0 => ([], 25)
  | m + 1 => if pc (w ^^^ enc m) < (nearS w m).2 then ([enc m], pc (w ^^^ enc m)) else if pc (w ^^^ enc m) = (nearS w m).2 then (insS (enc m) (nearS w m).1, (nearS w m).2) else nearS w m
theorem posK_le (x : Nat) (l : List Nat) : ∀ k, posK x l k ≤ k
  | 0 => Nat.le_refl _
  | k + 1 => by
    unfold posK
    split
    · exact Nat.le_succ_of_le (posK_le x l k)
    · exact Nat.le_refl _
theorem posK_after (x : Nat) (l : List Nat) : ∀ k, ∀ i, posK x l k ≤ i → i < k → x < l.getD i 0
  | 0, _, _, h => absurd h (by omega)
  | k + 1, i, h1, h2 => by
    unfold posK at h1
    split at h1
    · next h =>
      by_cases e : i = k
      · rw [e]; exact h
      · exact posK_after x l k i h1 (by omega)
    · omega
theorem posK_before (x : Nat) (l : List Nat) : ∀ k, posK x l k = 0 ∨ l.getD (posK x l k - 1) 0 ≤ x
  | 0 => Or.inl rfl
  | k + 1 => by
    unfold posK
    split
    · exact posK_before x l k
    · next h => exact Or.inr (by rw [Nat.add_sub_cancel]; omega)
theorem insS_perm (x : Nat) (l : List Nat) : (l ++ [x]).Perm (insS x l) := by
  unfold insS
  generalize posK x l l.length = k
  have h1 : (l.take k ++ x :: l.drop k).Perm (x :: (l.take k ++ l.drop k)) := List.perm_middle
  rw [List.take_append_drop] at h1
  exact (List.perm_append_comm (l₁ := l) (l₂ := [x])).trans h1.symm
theorem getD_sorted {l : List Nat} (h : l.Pairwise (· ≤ ·)) (i j : Nat) (hij : i ≤ j) (hj : j < l.length) : l.getD i 0 ≤ l.getD j 0 := by
  have hi : i < l.length := by omega
  rw [List.getD_eq_getElem?_getD, List.getD_eq_getElem?_getD, List.getElem?_eq_getElem hi, List.getElem?_eq_getElem hj]
  by_cases e : i = j
  · subst e; exact Nat.le_refl _
  · exact (List.pairwise_iff_getElem.1 h) i j hi hj (by omega)
theorem insS_sorted {x : Nat} {l : List Nat} (h : l.Pairwise (· ≤ ·)) : (insS x l).Pairwise (· ≤ ·) := by
  unfold insS
  have hk := posK_le x l l.length
  have ha := posK_after x l l.length
  have hb := posK_before x l l.length
  generalize posK x l l.length = k at hk ha hb
  have hlo : ∀ a ∈ l.take k, a ≤ x := by
    intro a hm
    obtain ⟨i, hi, rfl⟩ := List.mem_iff_getElem.1 hm
    rw [List.length_take] at hi
    have hi2 : i < l.length := by omega
    rw [List.getElem_take]
    rcases hb with hb | hb
    · omega
    · have := getD_sorted h i (k - 1) (by omega) (by omega)
      rw [List.getD_eq_getElem?_getD, List.getElem?_eq_getElem hi2] at this
      exact Nat.le_trans this hb
  have hhi : ∀ a ∈ l.drop k, x < a := by
    intro a hm
    obtain ⟨i, hi, rfl⟩ := List.mem_iff_getElem.1 hm
    rw [List.length_drop] at hi
    have hi2 : k + i < l.length := by omega
    rw [List.getElem_drop]
    have := ha (k + i) (by omega) hi2
    rwa [List.getD_eq_getElem?_getD, List.getElem?_eq_getElem hi2] at this
  refine List.pairwise_append.2 ⟨h.sublist (List.take_sublist k l), List.pairwise_cons.2 ⟨fun a ha => Nat.le_of_lt (hhi a ha), h.sublist (List.drop_sublist k l)⟩, ?_⟩
  intro a am b bm
  rcases List.mem_cons.1 bm with rfl | bm
  · exact hlo a am
  · exact Nat.le_trans (hlo a am) (Nat.le_of_lt (hhi b bm))
theorem near_both (w : Nat) : ∀ n, (nearI w n).2 = (nearS w n).2 ∧ (nearI w n).1.Perm (nearS w n).1 ∧ (nearS w n).1.Pairwise (· ≤ ·)
  | 0 => ⟨rfl, List.Perm.refl _, List.Pairwise.nil⟩
  | n + 1 => by
    obtain ⟨h1, h2, h3⟩ := near_both w n
    unfold nearI nearS
    rw [← h1]
    by_cases hlt : pc (w ^^^ enc n) < (nearI w n).2
    · rw [if_pos hlt, if_pos hlt]
      exact ⟨rfl, List.Perm.refl _, List.pairwise_singleton _ _⟩
    · rw [if_neg hlt, if_neg hlt]
      by_cases he : pc (w ^^^ enc n) = (nearI w n).2
      · rw [if_pos he, if_pos he]
        exact ⟨rfl, (h2.append_right _).trans (insS_perm _ _), insS_sorted h3⟩
      · rw [if_neg he, if_neg he]
        exact ⟨h1, h2, h3⟩
theorem near_least (w : Nat) : ∀ n k, k < n → (nearI w n).2 ≤ pc (w ^^^ enc k)
  | 0, _, h => absurd h (by omega)
  | n + 1, k, h => by
    have ih := near_least w n k
    unfold nearI
    by_cases e : k = n
    · subst e
      split
      · exact Nat.le_refl _
      · split
        · next h => exact Nat.le_of_eq h.symm
        · next h1 h2 => exact Nat.not_lt.1 h1
    · have := ih (by omega)
      split
      · next hlt => exact Nat.le_of_lt (Nat.lt_of_lt_of_le hlt this)
      · split
        · exact this
        · exact this
theorem near_mem (w : Nat) : ∀ n, ∀ x ∈ (nearI w n).1, ∃ k, k < n ∧ x = enc k ∧ pc (w ^^^ x) = (nearI w n).2
  | 0, x, h => absurd h (List.not_mem_nil)
  | n + 1, x, h => by
    have ih := near_mem w n x
    unfold nearI at h ⊢
    by_cases hlt : pc (w ^^^ enc n) < (nearI w n).2
    · rw [if_pos hlt] at h ⊢
      have e := List.mem_singleton.1 h
      exact ⟨n, Nat.lt_succ_self n, e, by rw [e]⟩
    · rw [if_neg hlt] at h ⊢
      by_cases he : pc (w ^^^ enc n) = (nearI w n).2
      · rw [if_pos he] at h ⊢
        rcases List.mem_append.1 h with h | h
        · obtain ⟨k, hk, e1, e2⟩ := ih h
          exact ⟨k, by omega, e1, e2⟩
        · have e := List.mem_singleton.1 h
          exact ⟨n, Nat.lt_succ_self n, e, by rw [e]; exact he⟩
      · rw [if_neg he] at h ⊢
        obtain ⟨k, hk, e1, e2⟩ := ih h
        exact ⟨k, by omega, e1, e2⟩
theorem near_some (w : Nat) : ∀ n, (nearI w n).2 < 25 → (nearI w n).1 ≠ []
  | 0, h => absurd h (by simp [nearI])
  | n + 1, h => by
    have ih := near_some w n
    unfold nearI at h ⊢
    by_cases hlt : pc (w ^^^ enc n) < (nearI w n).2
    · rw [if_pos hlt]; simp
    · rw [if_neg hlt] at h ⊢
      by_cases he : pc (w ^^^ enc n) = (nearI w n).2
      · rw [if_pos he]; simp
      · rw [if_neg he] at h ⊢
        exact ih h
theorem near_le25 (w : Nat) : ∀ n, (nearI w n).2 ≤ 25
  | 0 => Nat.le_refl _
  | n + 1 => by
    have ih := near_le25 w n
    unfold nearI
    split
    · next h => exact Nat.le_trans (Nat.le_of_lt h) ih
    · split
      · exact ih
      · exact ih
theorem near_len (w : Nat) : ∀ n, (nearI w n).1.length ≤ n
  | 0 => Nat.le_refl _
  | n + 1 => by
    have ih := near_len w n
    unfold nearI
    split
    · simp
    · split
      · simp; exact ih
      · exact Nat.le_succ_of_le ih
/-- the sorted list of the nearest ones of the first n words, and how far they are; 'n' stays a letter, lest the kernel unfold 4096 rounds -/
def nearN (w n : Nat) : List Nat := (nearS w n).1
def farN (w n : Nat) : Nat := (nearI w n).2
theorem farN_four {w n : Nat} (hn : n = 4096) (hw : w < 16777216) : farN w n ≤ 4 := by
  obtain ⟨m, hm, h⟩ := near_four w hw
  exact Nat.le_trans (near_least w n m (by omega)) h
theorem nearN_mem {w x n : Nat} (h : x ∈ nearN w n) : ∃ k, k < n ∧ x = enc k ∧ pc (w ^^^ x) = farN w n :=
  near_mem w n x ((near_both w n).2.1.mem_iff.2 h)
theorem nearN_some {w n : Nat} (hn : n = 4096) (hw : w < 16777216) : ∃ x l, nearN w n = x :: l := by
  have h4 := farN_four hn hw
  have h1 := near_some w n (by unfold farN at h4; omega)
  have h2 : (nearN w n).length ≠ 0 := by
    rw [nearN, ← (near_both w n).2.1.length_eq]
    intro h; exact h1 (List.eq_nil_of_length_eq_zero h)
  cases h : nearN w n with
  | nil => rw [h] at h2; exact absurd rfl h2
  | cons x l => exact ⟨x, l, rfl⟩
theorem nearN_len (w n : Nat) : (nearN w n).length ≤ n := by
  rw [nearN, ← (near_both w n).2.1.length_eq]
  exact near_len w n
theorem farN_zero {w n : Nat} (hn : n = 4096) (hw : w < 16777216) : farN w n = 0 ↔ inCode w = true := by
  constructor
  · intro h
    obtain ⟨x, l, e⟩ := nearN_some hn hw
    obtain ⟨k, hk, rfl, hp⟩ := nearN_mem (w := w) (n := n) (x := x) (by rw [e]; exact List.mem_cons_self)
    rw [h] at hp
    have hk2 : k < 4096 := by omega
    have := pc_zero (xor_lt24 hw (enc_ok k hk2).1) hp
    rw [xor_eq_zero' this]
    exact (enc_ok k hk2).2.1
  · intro h
    obtain ⟨m, hm, e⟩ := (inCode_iff w hw).1 h
    have := near_least w n m (by omega)
    rw [e, Nat.xor_self] at this
    have h0 : pc 0 = 0 := by decide
    rw [h0] at this
    exact Nat.le_zero.1 this
theorem farN_even {w n : Nat} (hn : n = 4096) (hw : w < 16777216) : (farN w n + pc w) % 2 = 0 := by
  obtain ⟨x, l, e⟩ := nearN_some hn hw
  obtain ⟨k, hk, rfl, hp⟩ := nearN_mem (w := w) (n := n) (x := x) (by rw [e]; exact List.mem_cons_self)
  rw [← hp]
  exact pc_even w k (by omega)
theorem near_sent {m e n : Nat} (hn : n = 4096) (hm : m < 4096) (he : e < 16777216) (h3 : pc e ≤ 3) : farN (enc m ^^^ e) n ≤ 3 ∧ ∃ l, nearN (enc m ^^^ e) n = enc m :: l := by
  have hx : enc m ^^^ e ^^^ enc m = e := by rw [Nat.xor_comm (enc m) e, Nat.xor_assoc, Nat.xor_self, Nat.xor_zero]
  have h1 : farN (enc m ^^^ e) n ≤ 3 := by
    have := near_least (enc m ^^^ e) n m (by omega)
    rw [hx] at this
    exact Nat.le_trans this h3
  refine ⟨h1, ?_⟩
  obtain ⟨x, l, h⟩ := nearN_some (w := enc m ^^^ e) hn (xor_lt24 (enc_ok m hm).1 he)
  obtain ⟨k, hk, rfl, hp⟩ := nearN_mem (w := enc m ^^^ e) (n := n) (x := x) (by rw [h]; exact List.mem_cons_self)
  by_cases ek : m = k
  · subst ek; exact ⟨l, h⟩
  · have h8 := enc_far hm (show k < 4096 by omega) ek
    have h6 : pc (enc m ^^^ enc k) ≤ pc e + pc (enc m ^^^ e ^^^ enc k) := by
      have := pc_tri e (enc m ^^^ e ^^^ enc k)
      rwa [show e ^^^ (enc m ^^^ e ^^^ enc k) = enc m ^^^ enc k by rw [Nat.xor_comm (enc m) e, Nat.xor_assoc e, ← Nat.xor_assoc e e, Nat.xor_self, Nat.zero_xor]] at this
    omega
end Gol
