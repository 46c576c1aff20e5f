/- The counts of words by their weights: their sums, where they are 0, and all of them. No condition beyond those stated. -/
import Derived.Test.YtompdebingllmaaCount
namespace Go.Proofs.Ytompdebingllmaa
open Go.RowKit Gol
theorem sum_set (l : List Int) (x : Int) : ∀ i, i < l.length → (l.set i (l.getD i 0 + x)).sum = l.sum + x := by
  induction l with
  | nil => intro i h; exact absurd h (by simp)
  | cons a l ih =>
    intro i h
    cases i with
    | zero => simp [List.getD]; omega
    | succ i =>
      have h2 : i < l.length := by simpa using h
      have e : (a :: l).getD (i + 1) 0 = l.getD i 0 := rfl
      rw [e, List.set_cons_succ, List.sum_cons, List.sum_cons, ih i h2]
      omega
theorem cnt_sum (lo : Nat) : ∀ k, (cntL lo k).sum = k
  | 0 => by rw [cntL]; decide
  | k + 1 => by
    have hp : pc (enc (lo + k)) < (cntL lo k).length := by rw [cntL_len]; have := pcN_le 24 (enc (lo + k)); unfold pc; omega
    rw [cntL_step, sum_set _ 1 _ hp, cnt_sum lo k]
    omega
/-- the sum of the first j elements -/
def preS (l : List Int) (j : Nat) : Int := (l.take j).sum
theorem preS_step (l : List Int) (j : Nat) (h : j < l.length) : preS l (j + 1) = preS l j + l.getD j 0 := by
  unfold preS
  rw [List.take_succ_eq_append_getElem h, List.sum_append]
  simp [List.getD, h]
theorem preS_le (l : List Int) (h0 : ∀ j, 0 ≤ l.getD j 0) : ∀ d j, j + d = l.length → 0 ≤ preS l j ∧ preS l j ≤ l.sum := by
  have hnn : ∀ j, j ≤ l.length → 0 ≤ preS l j := by
    intro j
    induction j with
    | zero => intro _; simp [preS]
    | succ j ih =>
      intro h
      have := ih (by omega)
      have := h0 j
      rw [preS_step l j (by omega)]
      omega
  intro d
  induction d with
  | zero =>
    intro j h
    refine ⟨hnn j (by omega), ?_⟩
    unfold preS
    rw [List.take_of_length_le (by omega)]
    exact Int.le_refl _
  | succ d ih =>
    intro j h
    refine ⟨hnn j (by omega), ?_⟩
    have h1 := (ih (j + 1) (by omega)).2
    rw [preS_step l j (by omega)] at h1
    have := h0 j
    omega
/-- how many of the k messages from lo on have words of weight j -/
def cntF (j lo : Nat) : Nat → Nat
  | 0 => 0
  | k + 1 => cntF j lo k + if pc (enc (lo + k)) = j then 1 else 0
theorem cntL_at (j lo : Nat) : ∀ k, (cntL lo k).getD j 0 = (cntF j lo k : Nat)
  | 0 => by
    have : (List.replicate 25 (0 : Int)).getD j 0 = 0 := by simp only [List.getD, List.getElem?_replicate]; split <;> rfl
    rw [cntL, this]; rfl
  | k + 1 => by
    have hp : pc (enc (lo + k)) < (cntL lo k).length := by rw [cntL_len]; have := pcN_le 24 (enc (lo + k)); unfold pc; omega
    have e : cntF j lo (k + 1) = cntF j lo k + if pc (enc (lo + k)) = j then 1 else 0 := rfl
    rw [cntL_step, set_getD _ _ _ _ hp, e]
    by_cases h : pc (enc (lo + k)) = j
    · rw [if_pos h, if_pos h, h, cntL_at j lo k]; omega
    · rw [if_neg h, if_neg h, cntL_at j lo k]; omega
theorem cntF_add (j lo a : Nat) : ∀ b, cntF j lo (a + b) = cntF j lo a + cntF j (lo + a) b
  | 0 => rfl
  | b + 1 => by
    have e1 : cntF j lo (a + (b + 1)) = cntF j lo (a + b) + if pc (enc (lo + (a + b))) = j then 1 else 0 := rfl
    have e2 : cntF j (lo + a) (b + 1) = cntF j (lo + a) b + if pc (enc (lo + a + b)) = j then 1 else 0 := rfl
    rw [e1, e2, cntF_add j lo a b, show lo + (a + b) = lo + a + b by omega]
    omega
/-- the same by halves, over the words' linear form -/
def cntH (j : Nat) : Nat → Nat → Nat
  | lo, 0 => if pc (lin lo G) = j then 1 else 0
  | lo, d + 1 => cntH j lo d + cntH j (lo + 2 ^ d) d
theorem cntH_is (j : Nat) : ∀ d lo, lo + 2 ^ d ≤ 4096 → cntH j lo d = cntF j lo (2 ^ d)
  | 0, lo, h => by
    have hl : lo < 4096 := by simp at h; omega
    show (if pc (lin lo G) = j then 1 else 0) = 0 + if pc (enc (lo + 0)) = j then 1 else 0
    rw [Nat.add_zero, enc_lin lo hl, Nat.zero_add]
  | d + 1, lo, h => by
    have e : 2 ^ (d + 1) = 2 ^ d + 2 ^ d := by rw [Nat.pow_succ]; omega
    have hp : 0 < 2 ^ d := Nat.two_pow_pos d
    rw [e] at h ⊢
    rw [cntF_add, ← cntH_is j d lo (by omega), ← cntH_is j d (lo + 2 ^ d) (by omega)]
    rfl
theorem cnt_all : cntH 0 0 12 = 1 ∧ cntH 8 0 12 = 759 ∧ cntH 12 0 12 = 2576 ∧ cntH 16 0 12 = 759 ∧ cntH 24 0 12 = 1 := by decide +kernel
theorem cntF_all (j : Nat) : cntF j 0 4096 = cntH j 0 12 := (cntH_is j 12 0 (by decide)).symm
theorem cnt_zero (j lo : Nat) (hj : ¬ (j = 0 ∨ j = 8 ∨ j = 12 ∨ j = 16 ∨ j = 24)) : ∀ k, lo + k ≤ 4096 → cntF j lo k = 0
  | 0, _ => rfl
  | k + 1, h => by
    have e : cntF j lo (k + 1) = cntF j lo k + if pc (enc (lo + k)) = j then 1 else 0 := rfl
    have hw := enc_weight (lo + k) (by omega)
    rw [e, cnt_zero j lo hj k (by omega), if_neg (by omega)]
theorem count_law (a b : Nat) (h : a ≤ b) (hb : b < 4096) : ∃ (zs : List Int) (P : Nat → Int), zs.length = 25 ∧
    Hid (∀ W, Calls Try.prog 38 #[.int .i64 a, .int .i64 b] W (RetOwns2 W.heap.size zs true W)) ∧
    Hid (∀ W, Calls Try.prog 39 #[.int .i64 a, .int .i64 b] W (RetOwns2 W.heap.size zs true W)) ∧
    P 0 = 0 ∧ Hid (∀ j, j < 25 → P (j + 1) = P j + zs.getD j 0) ∧ Hid (∀ j, j ≤ 25 → 0 ≤ P j ∧ P j ≤ 4096) ∧ Hid (P 25 = (b : Int) - a + 1) ∧
    Hid (∀ j, j < 25 → 0 ≤ zs.getD j 0 ∧ zs.getD j 0 ≤ 4096 ∧ (zs.getD j 0 = 0 ∨ j = 0 ∨ j = 8 ∨ j = 12 ∨ j = 16 ∨ j = 24)) ∧
    Hid (a = 0 → b = 4095 → zs.getD 0 0 = 1 ∧ zs.getD 8 0 = 759 ∧ zs.getD 12 0 = 2576 ∧ zs.getD 16 0 = 759 ∧ zs.getD 24 0 = 1) := by
  have hnn : ∀ j, 0 ≤ (cntL a (b + 1 - a)).getD j 0 := fun j => (cntL_le a _ j).1
  have hsum := cnt_sum a (b + 1 - a)
  have hlen := cntL_len a (b + 1 - a)
  refine ⟨cntL a (b + 1 - a), preS (cntL a (b + 1 - a)), hlen, Lib.hid (fun W => specCount_yes a b h hb W), Lib.hid (fun W => implCount_yes a b h hb W), rfl, Lib.hid (fun j hj => preS_step _ j (by rw [hlen]; exact hj)), Lib.hid (fun j hj => ?_), Lib.hid ?_, Lib.hid (fun j hj => ?_), Lib.hid (fun h1 h2 => ?_)⟩
  · have := preS_le _ hnn (25 - j) j (by rw [hlen]; omega)
    rw [hsum] at this
    omega
  · unfold preS
    rw [List.take_of_length_le (by rw [hlen]; exact Nat.le_refl _), hsum]
    omega
  · have h1 := cntL_le a (b + 1 - a) j
    refine ⟨h1.1, by omega, ?_⟩
    by_cases hj2 : j = 0 ∨ j = 8 ∨ j = 12 ∨ j = 16 ∨ j = 24
    · exact .inr hj2
    · left
      rw [cntL_at, cnt_zero j a hj2 _ (by omega)]
      rfl
  · subst h1
    have e : b + 1 - 0 = 4096 := by omega
    rw [e]
    simp only [cntL_at, cntF_all]
    obtain ⟨c1, c2, c3, c4, c5⟩ := cnt_all
    rw [c1, c2, c3, c4, c5]
    exact ⟨rfl, rfl, rfl, rfl, rfl⟩
end Go.Proofs.Ytompdebingllmaa
