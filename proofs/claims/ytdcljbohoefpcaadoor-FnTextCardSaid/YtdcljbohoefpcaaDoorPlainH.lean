/- Plain facts on digits and on rows of the hexacode. No program in sight; no condition. -/
namespace Gol
def times (a b : Nat) : Nat := if a = 0 ∨ b = 0 then 0 else 1 + (a + b - 2) % 3
def hexF (a b c x : Nat) : Nat := times a (times x x) ^^^ times b x ^^^ c
def hexRow (a b c : Nat) : List Nat := [a, b, c, hexF a b c 1, hexF a b c 2, hexF a b c 3]
theorem times_lt : ∀ a, a < 4 → ∀ b, b < 4 → times a b < 4 := by decide
theorem times_comm : ∀ a, a < 4 → ∀ b, b < 4 → times a b = times b a := by decide
theorem xor_lt4 {a b : Nat} (ha : a < 4) (hb : b < 4) : a ^^^ b < 4 := Nat.xor_lt_two_pow (n := 2) ha hb
theorem hexF_lt : ∀ a, a < 4 → ∀ b, b < 4 → ∀ c, c < 4 → ∀ x, x < 4 → hexF a b c x < 4 := by decide +kernel
theorem times_add : ∀ a, a < 4 → ∀ b, b < 4 → ∀ c, c < 4 → times (a ^^^ b) c = times a c ^^^ times b c := by decide +kernel
theorem times_one : ∀ a, a < 4 → times a 1 = a := by decide
theorem times_zero : ∀ a, a < 4 → ∀ b, b < 4 → (times a b = 0 ↔ a = 0 ∨ b = 0) := by decide
theorem times_succ : ∀ a, a < 4 → ∀ b, b < 4 → times a (b ^^^ 1) = times a b ^^^ a := by decide
theorem times_three : ∀ a, a < 4 → ∀ n, n < 4 → n ≠ 0 → times (times (times a n) n) n = a := by decide
theorem mirror_add : ∀ a, a < 4 → ∀ b, b < 4 → times (a ^^^ b) (a ^^^ b) = times a a ^^^ times b b := by decide
theorem mirror_in : ∀ a, a < 4 → ∀ b, b < 4 → times (times a (times b b)) (times a (times b b)) = times b (times a a) := by decide
/-- how many numbers of a list are not 0 -/
def wt : List Nat → Nat
  | [] => 0
  | a :: l => (if a ≠ 0 then 1 else 0) + wt l
def addL : List Nat → List Nat → List Nat
  | a :: l, b :: m => (a ^^^ b) :: addL l m
  | _, _ => []
def timesL (n : Nat) (l : List Nat) : List Nat := l.map fun x => times x n
/-- the sum of the products with the mirrors, from a sum so far -/
def innerL : Nat → List Nat → List Nat → Nat
  | s, a :: l, b :: m => innerL (s ^^^ times a (times b b)) l m
  | s, _, _ => s
/-- in how many places two lists differ -/
def farL : List Nat → List Nat → Nat
  | a :: l, b :: m => (if a ≠ b then 1 else 0) + farL l m
  | _, _ => 0
def Row (l : List Nat) : Prop := l.length = 6 ∧ ∀ x ∈ l, x < 4
def inHex (l : List Nat) : Bool := l == hexRow (l.getD 0 0) (l.getD 1 0) (l.getD 2 0)
theorem row_cases {l : List Nat} (h : Row l) : ∃ a b c d e f, l = [a, b, c, d, e, f] ∧ a < 4 ∧ b < 4 ∧ c < 4 ∧ d < 4 ∧ e < 4 ∧ f < 4 := by
  obtain ⟨hl, hm⟩ := h
  match l, hl with
  | [a, b, c, d, e, f], _ => exact ⟨a, b, c, d, e, f, rfl, hm a (by simp), hm b (by simp), hm c (by simp), hm d (by simp), hm e (by simp), hm f (by simp)⟩
theorem row_mk {a b c d e f : Nat} (ha : a < 4) (hb : b < 4) (hc : c < 4) (hd : d < 4) (he : e < 4) (hf : f < 4) : Row [a, b, c, d, e, f] :=
  ⟨rfl, by intro x hx; simp at hx; rcases hx with rfl | rfl | rfl | rfl | rfl | rfl <;> assumption⟩
theorem hexRow_row {a b c : Nat} (ha : a < 4) (hb : b < 4) (hc : c < 4) : Row (hexRow a b c) :=
  row_mk ha hb hc (hexF_lt a ha b hb c hc 1 (by decide)) (hexF_lt a ha b hb c hc 2 (by decide)) (hexF_lt a ha b hb c hc 3 (by decide))
theorem inHex_iff {l : List Nat} (h : Row l) : inHex l = true ↔ ∃ a b c, a < 4 ∧ b < 4 ∧ c < 4 ∧ l = hexRow a b c := by
  obtain ⟨a, b, c, d, e, f, rfl, ha, hb, hc, _, _, _⟩ := row_cases h
  constructor
  · intro hh
    exact ⟨a, b, c, ha, hb, hc, by simpa [inHex] using hh⟩
  · rintro ⟨a', b', c', _, _, _, e⟩
    rw [e]; simp [inHex, hexRow]
theorem hexRow_in (a b c : Nat) : inHex (hexRow a b c) = true := by simp [inHex, hexRow]
theorem hexRow_wt : ∀ a, a < 4 → ∀ b, b < 4 → ∀ c, c < 4 → wt (hexRow a b c) = 0 ∨ wt (hexRow a b c) = 4 ∨ wt (hexRow a b c) = 6 := by decide +kernel
theorem hexRow_two : ∀ a, a < 4 → ∀ b, b < 4 → ∀ c, c < 4 → inHex (timesL 2 (hexRow a b c)) = true ∧ inHex (addL (timesL 2 (hexRow a b c)) (hexRow a b c)) = true ∧ innerL 0 (hexRow a b c) (hexRow a b c) = 0 := by decide +kernel
def rowK (k : Nat) : List Nat := hexRow (k / 16) (k / 4 % 4) (k % 4)
theorem rowK_mk {a b c : Nat} (hb : b < 4) (hc : c < 4) : rowK (16 * a + 4 * b + c) = hexRow a b c := by
  unfold rowK
  rw [show (16 * a + 4 * b + c) / 16 = a by omega, show (16 * a + 4 * b + c) / 4 % 4 = b by omega, show (16 * a + 4 * b + c) % 4 = c by omega]
theorem rowK_pair : ∀ k, k < 64 → ∀ j, j < 64 → inHex (addL (rowK k) (rowK j)) = true ∧ innerL 0 (rowK k) (rowK j) = 0 := by decide +kernel
theorem hexRow_pair (a : Nat) (ha : a < 4) (b : Nat) (hb : b < 4) (c : Nat) (hc : c < 4) (a' : Nat) (ha' : a' < 4) (b' : Nat) (hb' : b' < 4) (c' : Nat) (hc' : c' < 4) :
    inHex (addL (hexRow a b c) (hexRow a' b' c')) = true ∧ innerL 0 (hexRow a b c) (hexRow a' b' c') = 0 := by
  have := rowK_pair (16 * a + 4 * b + c) (by omega) (16 * a' + 4 * b' + c') (by omega)
  rwa [rowK_mk hb hc, rowK_mk hb' hc'] at this
theorem xor_eq_zero' {x y : Nat} (h : x ^^^ y = 0) : x = y := by
  have := congrArg (· ^^^ y) h
  simpa [Nat.xor_assoc] using this
theorem xor_cancel (x y z : Nat) : (x ^^^ z = y ^^^ z) = (x = y) := by
  apply propext; constructor
  · intro h
    have := congrArg (· ^^^ z) h
    simpa [Nat.xor_assoc] using this
  · intro h; rw [h]
theorem addL_row {l m : List Nat} (hl : Row l) (hm : Row m) : Row (addL l m) := by
  obtain ⟨a, b, c, d, e, f, rfl, ha, hb, hc, hd, he, hf⟩ := row_cases hl
  obtain ⟨a', b', c', d', e', f', rfl, ha', hb', hc', hd', he', hf'⟩ := row_cases hm
  exact row_mk (xor_lt4 ha ha') (xor_lt4 hb hb') (xor_lt4 hc hc') (xor_lt4 hd hd') (xor_lt4 he he') (xor_lt4 hf hf')
theorem addL_addL {l m : List Nat} (hl : Row l) (hm : Row m) : addL (addL l m) m = l := by
  obtain ⟨a, b, c, d, e, f, rfl, _⟩ := row_cases hl
  obtain ⟨a', b', c', d', e', f', rfl, _⟩ := row_cases hm
  simp [addL, Nat.xor_assoc]
theorem timesL_row {l : List Nat} {n : Nat} (hl : Row l) (hn : n < 4) : Row (timesL n l) := by
  obtain ⟨a, b, c, d, e, f, rfl, ha, hb, hc, hd, he, hf⟩ := row_cases hl
  exact row_mk (times_lt _ ha _ hn) (times_lt _ hb _ hn) (times_lt _ hc _ hn) (times_lt _ hd _ hn) (times_lt _ he _ hn) (times_lt _ hf _ hn)
theorem timesL_three {l : List Nat} {n : Nat} (hl : Row l) (hn : n < 4) (h0 : n ≠ 0) : timesL n (timesL n (timesL n l)) = l := by
  obtain ⟨a, b, c, d, e, f, rfl, ha, hb, hc, hd, he, hf⟩ := row_cases hl
  simp [timesL, times_three a ha n hn h0, times_three b hb n hn h0, times_three c hc n hn h0, times_three d hd n hn h0, times_three e he n hn h0, times_three f hf n hn h0]
theorem timesL_wt {l : List Nat} {n : Nat} (hl : ∀ x ∈ l, x < 4) (hn : n < 4) (h0 : n ≠ 0) : wt (timesL n l) = wt l := by
  induction l with
  | nil => rfl
  | cons a l ih =>
    have hz := times_zero a (hl a (by simp)) n hn
    have i := ih (fun x hx => hl x (by simp [hx]))
    simp only [timesL, List.map_cons, wt] at i ⊢
    rw [i]
    by_cases ha : a = 0
    · simp [ha]
      have : times 0 n = 0 := by simp [times]
      exact this
    · have : times a n ≠ 0 := fun e => by rcases hz.1 e with h | h <;> contradiction
      simp [ha, this]
theorem wt_le (l : List Nat) : wt l ≤ l.length := by
  induction l with
  | nil => exact Nat.le_refl _
  | cons a l ih => simp only [wt, List.length_cons]; split <;> omega
theorem wt_zero {l : List Nat} (h : Row l) : wt l = 0 ↔ l = [0, 0, 0, 0, 0, 0] := by
  obtain ⟨a, b, c, d, e, f, rfl, _⟩ := row_cases h
  simp only [wt]
  constructor
  · intro h
    have g : ∀ x : Nat, (if x ≠ 0 then 1 else 0) = 0 → x = 0 := by intro x; split <;> omega
    simp only [List.cons.injEq, and_true]
    refine ⟨g a (by omega), g b (by omega), g c (by omega), g d (by omega), g e (by omega), g f (by omega)⟩
  · intro h; simp at h; simp [h]
theorem inner_mirror {l m : List Nat} (hl : Row l) (hm : Row m) : innerL 0 m l = times (innerL 0 l m) (innerL 0 l m) ∧ innerL 0 l m < 4 := by
  obtain ⟨a, b, c, d, e, f, rfl, ha, hb, hc, hd, he, hf⟩ := row_cases hl
  obtain ⟨a', b', c', d', e', f', rfl, ha', hb', hc', hd', he', hf'⟩ := row_cases hm
  have L : ∀ x y, x < 4 → y < 4 → times x (times y y) < 4 := fun x y hx hy => times_lt _ hx _ (times_lt _ hy _ hy)
  have la := L a a' ha ha'; have lb := L b b' hb hb'; have lc := L c c' hc hc'; have ld := L d d' hd hd'; have le := L e e' he he'; have lf := L f f' hf hf'
  simp only [innerL, Nat.zero_xor]
  refine ⟨?_, xor_lt4 (xor_lt4 (xor_lt4 (xor_lt4 (xor_lt4 la lb) lc) ld) le) lf⟩
  rw [mirror_add _ (xor_lt4 (xor_lt4 (xor_lt4 (xor_lt4 la lb) lc) ld) le) _ lf, mirror_add _ (xor_lt4 (xor_lt4 (xor_lt4 la lb) lc) ld) _ le, mirror_add _ (xor_lt4 (xor_lt4 la lb) lc) _ ld, mirror_add _ (xor_lt4 la lb) _ lc, mirror_add _ la _ lb]
  rw [mirror_in a ha a' ha', mirror_in b hb b' hb', mirror_in c hc c' hc', mirror_in d hd d' hd', mirror_in e he e' he', mirror_in f hf f' hf']
theorem inner_add {l m : List Nat} (hl : Row l) (hm : Row m) : innerL 0 (addL l m) m = innerL 0 l m ^^^ innerL 0 m m := by
  obtain ⟨a, b, c, d, e, f, rfl, ha, hb, hc, hd, he, hf⟩ := row_cases hl
  obtain ⟨a', b', c', d', e', f', rfl, ha', hb', hc', hd', he', hf'⟩ := row_cases hm
  have M : ∀ y, y < 4 → times y y < 4 := fun y hy => times_lt _ hy _ hy
  simp only [addL, innerL, Nat.zero_xor]
  rw [times_add a ha a' ha' _ (M _ ha'), times_add b hb b' hb' _ (M _ hb'), times_add c hc c' hc' _ (M _ hc'), times_add d hd d' hd' _ (M _ hd'), times_add e he e' he' _ (M _ he'), times_add f hf f' hf' _ (M _ hf')]
  ac_rfl
/-! the nearest row: the first of those that are nearest, in the order of their three digits -/
def nearK (l : List Nat) : Nat → List Nat × Nat
  | 0 => ([], 7)
  | k + 1 => if farL (rowK k) l < (nearK l k).2 then (rowK k, farL (rowK k) l) else nearK l k
theorem farL_le (l m : List Nat) : farL l m ≤ l.length := by
  induction l generalizing m with
  | nil => simp [farL]
  | cons a l ih => cases m with
    | nil => simp [farL]
    | cons b m => have := ih m; simp only [farL, List.length_cons]; split <;> omega
theorem farL_add {l m : List Nat} (hl : Row l) (hm : Row m) : wt (addL l m) = farL l m := by
  obtain ⟨a, b, c, d, e, f, rfl, _⟩ := row_cases hl
  obtain ⟨a', b', c', d', e', f', rfl, _⟩ := row_cases hm
  have g : ∀ x y : Nat, (if x ^^^ y ≠ 0 then 1 else 0) = if x ≠ y then 1 else 0 := by
    intro x y
    by_cases h : x = y
    · subst h; simp
    · have : x ^^^ y ≠ 0 := fun e => h (xor_eq_zero' e)
      simp [h, this]
  simp only [addL, wt, farL, g]
theorem nearK_le (l : List Nat) (n : Nat) : ∀ k, k < n → (nearK l n).2 ≤ farL (rowK k) l := by
  induction n with
  | zero => intro k h; omega
  | succ n ih =>
    intro k hk
    simp only [nearK]
    by_cases h : farL (rowK n) l < (nearK l n).2
    · rw [if_pos h]
      by_cases he : k = n
      · subst he; exact Nat.le_refl _
      · have := ih k (by omega); simp only; omega
    · rw [if_neg h]
      by_cases he : k = n
      · subst he; omega
      · exact ih k (by omega)
theorem nearK_is (l : List Nat) (n : Nat) : (nearK l n = ([], 7)) ∨ ∃ k, k < n ∧ nearK l n = (rowK k, farL (rowK k) l) := by
  induction n with
  | zero => exact .inl rfl
  | succ n ih =>
    simp only [nearK]
    by_cases h : farL (rowK n) l < (nearK l n).2
    · rw [if_pos h]; exact .inr ⟨n, by omega, rfl⟩
    · rw [if_neg h]
      rcases ih with ih | ⟨k, hk, e⟩
      · exact .inl ih
      · exact .inr ⟨k, by omega, e⟩
theorem near64 (l : List Nat) : ∃ k, k < 64 ∧ nearK l 64 = (rowK k, farL (rowK k) l) := by
  rcases nearK_is l 64 with h | h
  · have := nearK_le l 64 0 (by omega)
    rw [h] at this
    have := farL_le (rowK 0) l
    have h6 : (rowK 0).length = 6 := rfl
    rw [h6] at this
    simp only at *
    omega
  · exact h
/-- what is to be added to a row whose first three digits are 0 -/
theorem fix : ∀ d, d < 4 → ∀ e, e < 4 → ∀ f, f < 4 → ∃ k, k < 64 ∧ farL (rowK k) [0, 0, 0, d, e, f] ≤ 2 := by decide +kernel
theorem rowK_row {k : Nat} (h : k < 64) : Row (rowK k) := hexRow_row (by omega) (by omega) (by omega)
theorem farL_shift {l m n : List Nat} (hl : Row l) (hm : Row m) (hn : Row n) : farL (addL l n) (addL m n) = farL l m := by
  obtain ⟨a, b, c, d, e, f, rfl, _⟩ := row_cases hl
  obtain ⟨a', b', c', d', e', f', rfl, _⟩ := row_cases hm
  obtain ⟨a2, b2, c2, d2, e2, f2, rfl, _⟩ := row_cases hn
  simp only [addL, farL, ne_eq, xor_cancel]
theorem near_two {l : List Nat} (h : Row l) : (nearK l 64).2 ≤ 2 := by
  obtain ⟨a, b, c, d, e, f, rfl, ha, hb, hc, hd, he, hf⟩ := row_cases h
  have F := fun x hx => hexF_lt a ha b hb c hc x hx
  have hR := hexRow_row ha hb hc
  obtain ⟨k, hk, hfar⟩ := fix _ (xor_lt4 hd (F 1 (by decide))) _ (xor_lt4 he (F 2 (by decide))) _ (xor_lt4 hf (F 3 (by decide)))
  have hK := rowK_row hk
  have e1 : addL [0, 0, 0, d ^^^ hexF a b c 1, e ^^^ hexF a b c 2, f ^^^ hexF a b c 3] (hexRow a b c) = [a, b, c, d, e, f] := by simp [addL, hexRow, Nat.xor_assoc]
  have hz : Row [0, 0, 0, d ^^^ hexF a b c 1, e ^^^ hexF a b c 2, f ^^^ hexF a b c 3] := row_mk (by decide) (by decide) (by decide) (xor_lt4 hd (F 1 (by decide))) (xor_lt4 he (F 2 (by decide))) (xor_lt4 hf (F 3 (by decide)))
  have hs := farL_shift hK hz hR
  rw [e1] at hs
  have hin := (hexRow_pair (k / 16) (by omega) (k / 4 % 4) (by omega) (k % 4) (by omega) a ha b hb c hc).1
  obtain ⟨x, y, z, hx, hy, hz', e2⟩ := (inHex_iff (addL_row hK hR)).1 hin
  have := nearK_le [a, b, c, d, e, f] 64 (16 * x + 4 * y + z) (by omega)
  rw [rowK_mk hy hz', ← e2] at this
  omega
theorem near_zero {l : List Nat} (h : Row l) : (nearK l 64).2 = 0 ↔ inHex l = true := by
  obtain ⟨k, hk, e⟩ := near64 l
  have hK := rowK_row hk
  have z : ∀ {m : List Nat}, Row m → (farL m l = 0 ↔ m = l) := by
    intro m hm
    obtain ⟨a, b, c, d, e, f, rfl, _⟩ := row_cases hm
    obtain ⟨a', b', c', d', e', f', rfl, _⟩ := row_cases h
    simp only [farL]
    constructor
    · intro hh
      have g : ∀ x y : Nat, (if x ≠ y then 1 else 0) = 0 → x = y := by intro x y; split <;> omega
      simp only [List.cons.injEq, and_true]
      exact ⟨g _ _ (by omega), g _ _ (by omega), g _ _ (by omega), g _ _ (by omega), g _ _ (by omega), g _ _ (by omega)⟩
    · intro hh; simp at hh; simp [hh]
  constructor
  · intro h0
    rw [e] at h0
    rw [← (z hK).1 h0]
    exact hexRow_in _ _ _
  · intro hi
    obtain ⟨a, b, c, ha, hb, hc, e2⟩ := (inHex_iff h).1 hi
    have := nearK_le l 64 (16 * a + 4 * b + c) (by omega)
    rw [rowK_mk hb hc] at this
    have h0 := (z (hexRow_row ha hb hc)).2 e2.symm
    omega
end Gol
