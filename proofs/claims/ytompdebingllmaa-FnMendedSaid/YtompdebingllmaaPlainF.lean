/- No word is farther than four places from the code. No program in sight; no condition. -/
import Derived.Test.YtompdebingllmaaPlainC
namespace Gol
/-- the words of at most k of the lowest n places -/
def pats : Nat → Nat → List Nat
  | 0, _ => [0]
  | _ + 1, 0 => [0]
  | n + 1, k + 1 => pats n (k + 1) ++ (pats n k).map (· + 2 ^ n)
theorem pats_ok (n : Nat) : ∀ k e, e ∈ pats n k → e < 2 ^ n ∧ pcN n e ≤ k := by
  induction n with
  | zero => intro k e h; simp [pats] at h; subst h; simp [pcN]
  | succ n ih =>
    intro k e h
    have p2 := Nat.pow_succ 2 n
    have z : ∀ n, pcN n 0 = 0 := by
      intro n
      induction n with
      | zero => rfl
      | succ n ih => simp only [pcN, ih]; simp [bitN]
    cases k with
    | zero => simp [pats] at h; subst h; exact ⟨Nat.two_pow_pos _, by rw [z]; omega⟩
    | succ k =>
      simp only [pats, List.mem_append, List.mem_map] at h
      rcases h with h | ⟨d, hd, rfl⟩
      · obtain ⟨h1, h2⟩ := ih _ _ h
        refine ⟨by omega, ?_⟩
        simp only [pcN]
        have : bitN e n = 0 := by unfold bitN; rw [Nat.div_eq_of_lt h1]
        omega
      · obtain ⟨h1, h2⟩ := ih _ _ hd
        have hb : bitN d n = 0 := by unfold bitN; rw [Nat.div_eq_of_lt h1]
        refine ⟨by omega, ?_⟩
        rw [pcN_add d n hb, if_pos (by omega)]
        simp only [pcN]
        omega
def cover (l : List Nat) : Nat := l.foldl (fun m e => m ||| 1 <<< syn e) 0
theorem cover_spec (l : List Nat) : ∀ m s, (l.foldl (fun m e => m ||| 1 <<< syn e) m).testBit s = true → m.testBit s = true ∨ ∃ e ∈ l, syn e = s := by
  induction l with
  | nil => intro m s h; exact .inl h
  | cons e l ih =>
    intro m s h
    rcases ih _ _ h with h | ⟨d, hd, hs⟩
    · rw [Nat.testBit_or, Nat.one_shiftLeft, Nat.testBit_two_pow, Bool.or_eq_true, decide_eq_true_eq] at h
      rcases h with h | h
      · exact .inl h
      · exact .inr ⟨e, by simp, h⟩
    · exact .inr ⟨d, by simp [hd], hs⟩
theorem cover_all : (cover (pats 24 4) + 1 == 1 <<< 4096) = true := by decide +kernel
theorem cover_bit (c n s : Nat) (h : (c + 1 == 1 <<< n) = true) (hs : s < n) : c.testBit s = true := by
  rw [beq_iff_eq, Nat.one_shiftLeft] at h
  rw [show c = 2 ^ n - 1 by omega, Nat.testBit_two_pow_sub_one]
  exact decide_eq_true hs
theorem near_four (w : Nat) (hw : w < 16777216) : ∃ m, m < 4096 ∧ pc (w ^^^ enc m) ≤ 4 := by
  have hb : (cover (pats 24 4)).testBit (syn w) = true := by
    exact cover_bit _ _ _ cover_all (syn_lt w)
  rcases cover_spec _ _ _ hb with h | ⟨e, he, hs⟩
  · simp at h
  · obtain ⟨h1, h2⟩ := pats_ok 24 4 e he
    have hc := syn_same w e hs.symm
    obtain ⟨m, hm, hme⟩ := (inCode_iff _ (xor_lt24 hw h1)).1 hc
    refine ⟨m, hm, ?_⟩
    rw [hme, ← Nat.xor_assoc, Nat.xor_self, Nat.zero_xor]
    exact h2
end Gol
