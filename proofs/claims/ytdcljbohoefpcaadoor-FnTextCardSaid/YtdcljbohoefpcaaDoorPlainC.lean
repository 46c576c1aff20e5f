/- Plain facts on the code: messages, scores, sums, weights. No condition. -/
import Derived.Test.YtdcljbohoefpcaaDoorPlainW
import Derived.Test.YtdcljbohoefpcaaDoorPlainH
namespace Gol
theorem by64 {p : Nat → Prop} (h : ∀ a, a < 64 → ∀ b, b < 64 → p (64 * a + b)) (m : Nat) (hm : m < 4096) : p m := by
  have := h (m / 64) (by omega) (m % 64) (by omega)
  rwa [show 64 * (m / 64) + m % 64 = m by omega] at this
/-- a column's four bits -/
def nib (w c : Nat) : Nat := w / 2 ^ (4 * c) % 16
def sc (n : Nat) : Nat := (if bitN n 1 = 1 then 1 else 0) ^^^ (if bitN n 2 = 1 then 2 else 0) ^^^ (if bitN n 3 = 1 then 3 else 0)
def par (n : Nat) : Nat := pcN 4 n % 2
def scores (w : Nat) : List Nat := [sc (nib w 0), sc (nib w 1), sc (nib w 2), sc (nib w 3), sc (nib w 4), sc (nib w 5)]
/-- the parity of the row 0 -/
def top (w : Nat) : Nat := (bitN w 0 + bitN w 4 + bitN w 8 + bitN w 12 + bitN w 16 + bitN w 20) % 2
def inCode (w : Nat) : Bool :=
  par (nib w 0) == top w && par (nib w 1) == top w && par (nib w 2) == top w && par (nib w 3) == top w && par (nib w 4) == top w && par (nib w 5) == top w && inHex (scores w)
def fillT : Nat → Nat
  | 0 => 0 | 1 => 12 | 2 => 10 | 3 => 6 | 4 => 15 | 5 => 3 | 6 => 5 | 7 => 9
  | 8 => 14 | 9 => 2 | 10 => 4 | 11 => 8 | 12 => 1 | 13 => 13 | 14 => 11 | _ => 7
/-- the column with a score, a parity and a bit of the row 0 -/
def fill (s p f : Nat) : Nat := fillT (8 * p + 4 * f + s)
def encAt (a b c p f1 f2 f3 f4 f5 : Nat) : Nat :=
  fill a p ((f1 + f2 + f3 + f4 + f5 + p) % 2) + fill b p f1 * 16 + fill c p f2 * 256 + fill (hexF a b c 1) p f3 * 4096 + fill (hexF a b c 2) p f4 * 65536 + fill (hexF a b c 3) p f5 * 1048576
def enc (m : Nat) : Nat := encAt (m % 4) (m / 4 % 4) (m / 16 % 4) (m / 64 % 2) (m / 128 % 2) (m / 256 % 2) (m / 512 % 2) (m / 1024 % 2) (m / 2048 % 2)
def msg (w : Nat) : Nat :=
  sc (nib w 0) + 4 * sc (nib w 1) + 16 * sc (nib w 2) + 64 * par (nib w 0) + 128 * bitN w 4 + 256 * bitN w 8 + 512 * bitN w 12 + 1024 * bitN w 16 + 2048 * bitN w 20
theorem nib_lt (w c : Nat) : nib w c < 16 := Nat.mod_lt _ (by decide)
theorem fill_nib : ∀ n, n < 16 → fill (sc n) (par n) (bitN n 0) = n ∧ sc n < 4 ∧ par n < 2 := by decide
theorem fill_of : ∀ s, s < 4 → ∀ p, p < 2 → ∀ f, f < 2 → fill s p f < 16 ∧ sc (fill s p f) = s ∧ par (fill s p f) = p ∧ bitN (fill s p f) 0 = f := by decide
theorem nib_bit (w c : Nat) : bitN (nib w c) 0 = bitN w (4 * c) := by
  unfold nib bitN; simp only [Nat.pow_zero, Nat.div_one]; omega
theorem nibs (w : Nat) (h : w < 16777216) : w = nib w 0 + nib w 1 * 16 + nib w 2 * 256 + nib w 3 * 4096 + nib w 4 * 65536 + nib w 5 * 1048576 := by
  unfold nib; simp only [Nat.mul_zero, Nat.pow_zero, Nat.div_one, Nat.mul_one, Nat.reduceMul, Nat.reducePow]; omega
theorem nibs_of (n0 n1 n2 n3 n4 n5 : Nat) (h0 : n0 < 16) (h1 : n1 < 16) (h2 : n2 < 16) (h3 : n3 < 16) (h4 : n4 < 16) (h5 : n5 < 16) :
    let w := n0 + n1 * 16 + n2 * 256 + n3 * 4096 + n4 * 65536 + n5 * 1048576
    w < 16777216 ∧ nib w 0 = n0 ∧ nib w 1 = n1 ∧ nib w 2 = n2 ∧ nib w 3 = n3 ∧ nib w 4 = n4 ∧ nib w 5 = n5 := by
  intro w
  unfold nib; simp only [Nat.mul_zero, Nat.pow_zero, Nat.div_one, Nat.mul_one, Nat.reduceMul, Nat.reducePow]
  refine ⟨?_, ?_, ?_, ?_, ?_, ?_, ?_⟩ <;> omega
theorem sc_lt (w c : Nat) : sc (nib w c) < 4 := (fill_nib _ (nib_lt w c)).2.1
theorem par_lt (w c : Nat) : par (nib w c) < 2 := (fill_nib _ (nib_lt w c)).2.2
theorem scores_row (w : Nat) : Row (scores w) := row_mk (sc_lt w 0) (sc_lt w 1) (sc_lt w 2) (sc_lt w 3) (sc_lt w 4) (sc_lt w 5)
theorem enc_all (a b c p f1 f2 f3 f4 f5 : Nat) (ha : a < 4) (hb : b < 4) (hc : c < 4) (hp : p < 2) (h1 : f1 < 2) (h2 : f2 < 2) (h3 : f3 < 2) (h4 : f4 < 2) (h5 : f5 < 2) :
    encAt a b c p f1 f2 f3 f4 f5 < 16777216 ∧ inCode (encAt a b c p f1 f2 f3 f4 f5) = true ∧ msg (encAt a b c p f1 f2 f3 f4 f5) = a + 4 * b + 16 * c + 64 * p + 128 * f1 + 256 * f2 + 512 * f3 + 1024 * f4 + 2048 * f5 ∧
      scores (encAt a b c p f1 f2 f3 f4 f5) = hexRow a b c := by
  have F := fun x hx => hexF_lt a ha b hb c hc x hx
  have k0 := fill_of a ha p hp ((f1 + f2 + f3 + f4 + f5 + p) % 2) (Nat.mod_lt _ (by decide))
  have k1 := fill_of b hb p hp f1 h1
  have k2 := fill_of c hc p hp f2 h2
  have k3 := fill_of _ (F 1 (by decide)) p hp f3 h3
  have k4 := fill_of _ (F 2 (by decide)) p hp f4 h4
  have k5 := fill_of _ (F 3 (by decide)) p hp f5 h5
  have N := nibs_of _ _ _ _ _ _ k0.1 k1.1 k2.1 k3.1 k4.1 k5.1
  have B := nib_bit (encAt a b c p f1 f2 f3 f4 f5)
  have b0 := B 0; have b1 := B 1; have b2 := B 2; have b3 := B 3; have b4 := B 4; have b5 := B 5
  unfold encAt at *
  generalize hw : fill a p ((f1 + f2 + f3 + f4 + f5 + p) % 2) + fill b p f1 * 16 + fill c p f2 * 256 + fill (hexF a b c 1) p f3 * 4096 + fill (hexF a b c 2) p f4 * 65536 + fill (hexF a b c 3) p f5 * 1048576 = w at *
  obtain ⟨hlt, n0, n1, n2, n3, n4, n5⟩ := N
  rw [n0, k0.2.2.2] at b0; rw [n1, k1.2.2.2] at b1; rw [n2, k2.2.2.2] at b2; rw [n3, k3.2.2.2] at b3; rw [n4, k4.2.2.2] at b4; rw [n5, k5.2.2.2] at b5
  have hs : scores w = hexRow a b c := by
    unfold scores hexRow
    rw [n0, n1, n2, n3, n4, n5, k0.2.1, k1.2.1, k2.2.1, k3.2.1, k4.2.1, k5.2.1]
  have ht : top w = p := by
    unfold top
    simp only [Nat.mul_zero, Nat.mul_one, Nat.reduceMul] at b0 b1 b2 b3 b4 b5
    omega
  refine ⟨hlt, ?_, ?_, hs⟩
  · unfold inCode
    rw [hs, ht, n0, n1, n2, n3, n4, n5, k0.2.2.1, k1.2.2.1, k2.2.2.1, k3.2.2.1, k4.2.2.1, k5.2.2.1, hexRow_in]
    simp
  · unfold msg
    simp only [Nat.mul_zero, Nat.mul_one, Nat.reduceMul] at b0 b1 b2 b3 b4 b5
    rw [n0, n1, n2, k0.2.1, k1.2.1, k2.2.1, k0.2.2.1, ← b1, ← b2, ← b3, ← b4, ← b5]
theorem enc_ok (m : Nat) (hm : m < 4096) : enc m < 16777216 ∧ inCode (enc m) = true ∧ msg (enc m) = m := by
  have := enc_all (m % 4) (m / 4 % 4) (m / 16 % 4) (m / 64 % 2) (m / 128 % 2) (m / 256 % 2) (m / 512 % 2) (m / 1024 % 2) (m / 2048 % 2) (by omega) (by omega) (by omega) (by omega) (by omega) (by omega) (by omega) (by omega) (by omega)
  refine ⟨this.1, this.2.1, this.2.2.1.trans ?_⟩
  omega
theorem msg_lt (w : Nat) : msg w < 4096 := by
  unfold msg
  have := sc_lt w 0; have := sc_lt w 1; have := sc_lt w 2; have := par_lt w 0
  have := bitN_lt w 4; have := bitN_lt w 8; have := bitN_lt w 12; have := bitN_lt w 16; have := bitN_lt w 20
  omega
theorem enc_msg (w : Nat) (hw : w < 16777216) (h : inCode w = true) : enc (msg w) = w := by
  unfold inCode at h
  simp only [Bool.and_eq_true, beq_iff_eq] at h
  obtain ⟨⟨⟨⟨⟨⟨h0, h1⟩, h2⟩, h3⟩, h4⟩, h5⟩, hh⟩ := h
  have hx : scores w = hexRow (sc (nib w 0)) (sc (nib w 1)) (sc (nib w 2)) := by simpa [inHex, scores] using hh
  simp only [scores, hexRow, List.cons.injEq, true_and, and_true] at hx
  obtain ⟨x3, x4, x5⟩ := hx
  have s0 := sc_lt w 0; have s1 := sc_lt w 1; have s2 := sc_lt w 2; have p0 := par_lt w 0
  have c0 := bitN_lt w 0; have c1 := bitN_lt w 4; have c2 := bitN_lt w 8; have c3 := bitN_lt w 12; have c4 := bitN_lt w 16; have c5 := bitN_lt w 20
  have E : enc (msg w) = encAt (sc (nib w 0)) (sc (nib w 1)) (sc (nib w 2)) (par (nib w 0)) (bitN w 4) (bitN w 8) (bitN w 12) (bitN w 16) (bitN w 20) := by
    unfold enc msg
    congr 1 <;> omega
  rw [E]
  unfold encAt
  have g : ∀ c, fill (sc (nib w c)) (par (nib w c)) (bitN w (4 * c)) = nib w c := fun c => by rw [← nib_bit]; exact (fill_nib _ (nib_lt w c)).1
  have g0 := g 0; have g1 := g 1; have g2 := g 2; have g3 := g 3; have g4 := g 4; have g5 := g 5
  simp only [Nat.mul_zero, Nat.mul_one, Nat.reduceMul] at g0 g1 g2 g3 g4 g5
  rw [← x3, ← x4, ← x5, h0]
  have ht : (bitN w 4 + bitN w 8 + bitN w 12 + bitN w 16 + bitN w 20 + top w) % 2 = bitN w 0 := by unfold top; omega
  rw [ht]
  rw [h0] at g0; rw [h1] at g1; rw [h2] at g2; rw [h3] at g3; rw [h4] at g4; rw [h5] at g5
  rw [g0, g1, g2, g3, g4, g5]
  exact (nibs w hw).symm
def G : List Nat := [10928140, 7118858, 6996160, 13017248, 13421568, 11184640, 15658721, 255, 3855, 61455, 983055, 15728655]
def lin : Nat → List Nat → Nat
  | _, [] => 0
  | m, g :: l => (if m % 2 = 1 then g else 0) ^^^ lin (m / 2) l
theorem lin_add (l : List Nat) : ∀ a b, lin (a ^^^ b) l = lin a l ^^^ lin b l := by
  induction l with
  | nil => intro a b; simp [lin]
  | cons g l ih =>
    intro a b
    simp only [lin]
    have e : (a ^^^ b) / 2 = a / 2 ^^^ b / 2 := Nat.xor_div_two_pow (n := 1)
    have e2 : (a ^^^ b) % 2 = (a % 2 + b % 2) % 2 := by have := bitN_xor a b 0; simpa [bitN] using this
    rw [e, ih, e2]
    have ca : a % 2 = 0 ∨ a % 2 = 1 := by omega
    have cb : b % 2 = 0 ∨ b % 2 = 1 := by omega
    rcases ca with ca | ca <;> rcases cb with cb | cb <;> simp [ca, cb]
    · ac_rfl
    · ac_rfl
    · rw [show g ^^^ lin (a / 2) l ^^^ (g ^^^ lin (b / 2) l) = (g ^^^ g) ^^^ (lin (a / 2) l ^^^ lin (b / 2) l) by ac_rfl]; simp
theorem enc_lin : ∀ m, m < 4096 → enc m = lin m G := by64 (by decide +kernel)
theorem xor_lt4096 {a b : Nat} (ha : a < 4096) (hb : b < 4096) : a ^^^ b < 4096 := Nat.xor_lt_two_pow (n := 12) ha hb
theorem enc_add {a b : Nat} (ha : a < 4096) (hb : b < 4096) : enc (a ^^^ b) = enc a ^^^ enc b := by
  rw [enc_lin _ (xor_lt4096 ha hb), enc_lin _ ha, enc_lin _ hb, lin_add]
/-- weights by tables of a nibble -/
def pcF (w : Nat) : Nat := pcN 4 (w % 16) + pcN 4 (w / 16 % 16) + pcN 4 (w / 256 % 16) + pcN 4 (w / 4096 % 16) + pcN 4 (w / 65536 % 16) + pcN 4 (w / 1048576 % 16)
theorem enc_wt : ∀ m, m < 4096 → pc (lin m G) = 0 ∧ m = 0 ∨ pc (lin m G) = 8 ∨ pc (lin m G) = 12 ∨ pc (lin m G) = 16 ∨ pc (lin m G) = 24 := by64 (by decide +kernel)
theorem enc_weight (m : Nat) (hm : m < 4096) : pc (enc m) = 0 ∧ m = 0 ∨ pc (enc m) = 8 ∨ pc (enc m) = 12 ∨ pc (enc m) = 16 ∨ pc (enc m) = 24 := by
  rw [enc_lin m hm]; exact enc_wt m hm
theorem xor_mid (a b c : Nat) : (a ^^^ c) ^^^ (b ^^^ c) = a ^^^ b := by
  rw [show (a ^^^ c) ^^^ (b ^^^ c) = (a ^^^ b) ^^^ (c ^^^ c) by ac_rfl]; simp
theorem pc_tri (a b : Nat) : pc (a ^^^ b) ≤ pc a + pc b := by have := pcN_xor a b 24; unfold pc; omega
theorem pc_zero {a : Nat} (ha : a < 16777216) (h : pc a = 0) : a = 0 := by
  have z : ∀ n, n ≤ 24 → pcN n a = 0 → a % 2 ^ n = 0 := by
    intro n
    induction n with
    | zero => intro _ _; simp [Nat.mod_one]
    | succ n ih =>
      intro hn h
      simp only [pcN] at h
      rw [Nat.pow_succ, Nat.mod_mul, ih (by omega) (by omega)]
      have : bitN a n = 0 := by omega
      unfold bitN at this
      rw [this]; simp
  have := z 24 (by decide) h
  omega
theorem enc_far {a b : Nat} (ha : a < 4096) (hb : b < 4096) (h : a ≠ b) : 8 ≤ pc (enc a ^^^ enc b) := by
  rw [← enc_add ha hb]
  rcases enc_weight _ (xor_lt4096 ha hb) with h1 | h1 | h1 | h1 | h1
  · exact absurd (xor_eq_zero' h1.2) h
  all_goals omega
theorem inCode_iff (w : Nat) (hw : w < 16777216) : inCode w = true ↔ ∃ m, m < 4096 ∧ enc m = w :=
  ⟨fun h => ⟨msg w, msg_lt w, enc_msg w hw h⟩, fun ⟨m, hm, e⟩ => e ▸ (enc_ok m hm).2.1⟩
theorem inCode_add {v w : Nat} (hv : v < 16777216) (hw : w < 16777216) (h1 : inCode v = true) (h2 : inCode w = true) : inCode (v ^^^ w) = true := by
  obtain ⟨a, ha, rfl⟩ := (inCode_iff v hv).1 h1
  obtain ⟨b, hb, rfl⟩ := (inCode_iff w hw).1 h2
  rw [← enc_add ha hb]
  exact (enc_ok _ (xor_lt4096 ha hb)).2.1
theorem inCode_max : inCode 16777215 = true := by decide +kernel
/-! the word of a message, column by column -/
def topS (m : Nat) : Nat → Nat
  | 0 => 0
  | k + 1 => topS m k ^^^ bitN m (7 + k)
def encS (m : Nat) : Nat → Nat
  | 0 => 0
  | k + 1 => encS m k + fill ((hexRow (m % 4) (m / 4 % 4) (m / 16 % 4)).getD (k + 1) 0) (m / 64 % 2) (bitN m (7 + k)) * 2 ^ (4 * (k + 1))
theorem bit_xor {a b : Nat} (ha : a < 2) (hb : b < 2) : a ^^^ b = (a + b) % 2 := by
  have c1 : a = 0 ∨ a = 1 := by omega
  have c2 : b = 0 ∨ b = 1 := by omega
  rcases c1 with rfl | rfl <;> rcases c2 with rfl | rfl <;> rfl
theorem topS_lt (m k : Nat) : topS m k < 2 := by
  induction k with
  | zero => show 0 < 2; decide
  | succ k ih => exact Nat.xor_lt_two_pow (n := 1) ih (bitN_lt m (7 + k))
theorem sum_xor (b7 b8 b9 b10 b11 p : Nat) (h7 : b7 < 2) (h8 : b8 < 2) (h9 : b9 < 2) (h10 : b10 < 2) (h11 : b11 < 2) (hp : p < 2) :
    b7 ^^^ b8 ^^^ b9 ^^^ b10 ^^^ b11 ^^^ p = (b7 + b8 + b9 + b10 + b11 + p) % 2 := by
  have m2 := fun n : Nat => Nat.mod_lt n (show 0 < 2 by decide)
  rw [bit_xor h7 h8, bit_xor (m2 _) h9, bit_xor (m2 _) h10, bit_xor (m2 _) h11, bit_xor (m2 _) hp]
  omega
theorem sum_turn (a b c d e f : Nat) : a + b + c + d + e + f = 0 + b + c + d + e + f + a := by omega
theorem enc_eq (m : Nat) : enc m = encS m 5 + fill (m % 4) (m / 64 % 2) (topS m 5 ^^^ (m / 64 % 2)) := by
  have e : topS m 5 ^^^ (m / 64 % 2) = (bitN m 7 + bitN m 8 + bitN m 9 + bitN m 10 + bitN m 11 + m / 64 % 2) % 2 := by
    rw [← sum_xor _ _ _ _ _ _ (bitN_lt m 7) (bitN_lt m 8) (bitN_lt m 9) (bitN_lt m 10) (bitN_lt m 11) (Nat.mod_lt _ (by decide))]
    have t : topS m 5 = 0 ^^^ bitN m 7 ^^^ bitN m 8 ^^^ bitN m 9 ^^^ bitN m 10 ^^^ bitN m 11 := rfl
    rw [t, Nat.zero_xor]
  rw [e]
  have f : encS m 5 = 0 + fill (m / 4 % 4) (m / 64 % 2) (bitN m 7) * 16 + fill (m / 16 % 4) (m / 64 % 2) (bitN m 8) * 256 + fill (hexF (m % 4) (m / 4 % 4) (m / 16 % 4) 1) (m / 64 % 2) (bitN m 9) * 4096 +
    fill (hexF (m % 4) (m / 4 % 4) (m / 16 % 4) 2) (m / 64 % 2) (bitN m 10) * 65536 + fill (hexF (m % 4) (m / 4 % 4) (m / 16 % 4) 3) (m / 64 % 2) (bitN m 11) * 1048576 := rfl
  rw [f]
  unfold enc encAt
  have f7 : bitN m 7 = m / 128 % 2 := rfl
  have f8 : bitN m 8 = m / 256 % 2 := rfl
  have f9 : bitN m 9 = m / 512 % 2 := rfl
  have f10 : bitN m 10 = m / 1024 % 2 := rfl
  have f11 : bitN m 11 = m / 2048 % 2 := rfl
  rw [f7, f8, f9, f10, f11]
  exact sum_turn _ _ _ _ _ _
theorem encS_step (m k : Nat) (hk : k < 5) : fill ((hexRow (m % 4) (m / 4 % 4) (m / 16 % 4)).getD (k + 1) 0) (m / 64 % 2) (bitN m (7 + k)) < 16 := by
  have hr := hexRow_row (show m % 4 < 4 by omega) (show m / 4 % 4 < 4 by omega) (show m / 16 % 4 < 4 by omega)
  have hd : (hexRow (m % 4) (m / 4 % 4) (m / 16 % 4)).getD (k + 1) 0 < 4 := by
    have hl : k + 1 < (hexRow (m % 4) (m / 4 % 4) (m / 16 % 4)).length := by rw [hr.1]; omega
    simp only [List.getD, List.getElem?_eq_getElem hl, Option.getD_some]
    exact hr.2 _ (List.getElem_mem hl)
  exact (fill_of _ hd _ (Nat.mod_lt _ (by decide)) _ (bitN_lt m _)).1
theorem encS_lt (m : Nat) : ∀ k, k ≤ 5 → encS m k < 2 ^ (4 * (k + 1)) := by
  intro k
  induction k with
  | zero => intro _; show 0 < 2 ^ 4; decide
  | succ k ih =>
    intro hk
    have i := ih (by omega)
    have s := encS_step m k (by omega)
    have p : 2 ^ (4 * (k + 1 + 1)) = 16 * 2 ^ (4 * (k + 1)) := by rw [show 4 * (k + 1 + 1) = 4 + 4 * (k + 1) by omega, Nat.pow_add]
    simp only [encS]
    have : fill ((hexRow (m % 4) (m / 4 % 4) (m / 16 % 4)).getD (k + 1) 0) (m / 64 % 2) (bitN m (7 + k)) * 2 ^ (4 * (k + 1)) ≤ 15 * 2 ^ (4 * (k + 1)) := Nat.mul_le_mul_right _ (by omega)
    omega
/-! the columns of sums -/
theorem nib_add (a b c : Nat) : nib (a ^^^ b) c = nib a c ^^^ nib b c := by
  unfold nib
  rw [Nat.xor_div_two_pow, show (16 : Nat) = 2 ^ 4 by rfl, Nat.xor_mod_two_pow]
theorem sc_add : ∀ a, a < 16 → ∀ b, b < 16 → sc (a ^^^ b) = sc a ^^^ sc b ∧ par (a ^^^ b) = (par a + par b) % 2 := by decide +kernel
theorem sc_nib_add (a b c : Nat) : sc (nib (a ^^^ b) c) = sc (nib a c) ^^^ sc (nib b c) := by rw [nib_add, (sc_add _ (nib_lt a c) _ (nib_lt b c)).1]
theorem par_nib_add (a b c : Nat) : par (nib (a ^^^ b) c) = (par (nib a c) + par (nib b c)) % 2 := by rw [nib_add, (sc_add _ (nib_lt a c) _ (nib_lt b c)).2]
theorem scores_add (a b : Nat) : scores (a ^^^ b) = addL (scores a) (scores b) := by simp only [scores, addL, sc_nib_add]
theorem scores_max : scores 16777215 = [0, 0, 0, 0, 0, 0] := by decide +kernel
theorem addL_zero {l : List Nat} (h : Row l) : addL l [0, 0, 0, 0, 0, 0] = l := by
  obtain ⟨a, b, c, d, e, f, rfl, _⟩ := row_cases h
  simp [addL]
theorem top_add (a b : Nat) : top (a ^^^ b) = (top a + top b) % 2 := by
  unfold top; simp only [bitN_xor]; omega
theorem hexF_add {a b c a' b' c' x : Nat} (ha : a < 4) (hb : b < 4) (ha' : a' < 4) (hb' : b' < 4) (hx : x < 4) : hexF (a ^^^ a') (b ^^^ b') (c ^^^ c') x = hexF a b c x ^^^ hexF a' b' c' x := by
  unfold hexF
  rw [times_add a ha a' ha' _ (times_lt x hx x hx), times_add b hb b' hb' x hx]
  ac_rfl
/-- what a word lacks to be of the code -/
def syn (w : Nat) : Nat :=
  (par (nib w 1) + par (nib w 0)) % 2 + 2 * ((par (nib w 2) + par (nib w 0)) % 2) + 4 * ((par (nib w 3) + par (nib w 0)) % 2) + 8 * ((par (nib w 4) + par (nib w 0)) % 2) + 16 * ((par (nib w 5) + par (nib w 0)) % 2) +
  32 * ((top w + par (nib w 0)) % 2) +
  64 * (sc (nib w 3) ^^^ hexF (sc (nib w 0)) (sc (nib w 1)) (sc (nib w 2)) 1) + 256 * (sc (nib w 4) ^^^ hexF (sc (nib w 0)) (sc (nib w 1)) (sc (nib w 2)) 2) + 1024 * (sc (nib w 5) ^^^ hexF (sc (nib w 0)) (sc (nib w 1)) (sc (nib w 2)) 3)
theorem syn_hex_lt (w c x : Nat) (hx : x < 4) : (sc (nib w c) ^^^ hexF (sc (nib w 0)) (sc (nib w 1)) (sc (nib w 2)) x) < 4 :=
  xor_lt4 (sc_lt w c) (hexF_lt _ (sc_lt w 0) _ (sc_lt w 1) _ (sc_lt w 2) x hx)
theorem syn_lt (w : Nat) : syn w < 4096 := by
  unfold syn
  have := syn_hex_lt w 3 1 (by decide); have := syn_hex_lt w 4 2 (by decide); have := syn_hex_lt w 5 3 (by decide)
  omega
theorem unpack (a1 a2 a3 a4 a5 a6 a7 a8 a9 b1 b2 b3 b4 b5 b6 b7 b8 b9 : Nat) (g1 : a1 < 2) (g2 : a2 < 2) (g3 : a3 < 2) (g4 : a4 < 2) (g5 : a5 < 2) (g6 : a6 < 2) (g7 : a7 < 4) (g8 : a8 < 4) (_g9 : a9 < 4)
    (k1 : b1 < 2) (k2 : b2 < 2) (k3 : b3 < 2) (k4 : b4 < 2) (k5 : b5 < 2) (k6 : b6 < 2) (k7 : b7 < 4) (k8 : b8 < 4) (_k9 : b9 < 4)
    (h : a1 + 2 * a2 + 4 * a3 + 8 * a4 + 16 * a5 + 32 * a6 + 64 * a7 + 256 * a8 + 1024 * a9 = b1 + 2 * b2 + 4 * b3 + 8 * b4 + 16 * b5 + 32 * b6 + 64 * b7 + 256 * b8 + 1024 * b9) :
    a1 = b1 ∧ a2 = b2 ∧ a3 = b3 ∧ a4 = b4 ∧ a5 = b5 ∧ a6 = b6 ∧ a7 = b7 ∧ a8 = b8 ∧ a9 = b9 := by
  refine ⟨?_, ?_, ?_, ?_, ?_, ?_, ?_, ?_, ?_⟩ <;> omega
theorem syn_same (a b : Nat) (h : syn a = syn b) : inCode (a ^^^ b) = true := by
  unfold syn at h
  have a1 := syn_hex_lt a 3 1 (by decide); have a2 := syn_hex_lt a 4 2 (by decide); have a3 := syn_hex_lt a 5 3 (by decide)
  have b1 := syn_hex_lt b 3 1 (by decide); have b2 := syn_hex_lt b 4 2 (by decide); have b3 := syn_hex_lt b 5 3 (by decide)
  have H : ∀ c x, x < 4 → sc (nib a c) ^^^ hexF (sc (nib a 0)) (sc (nib a 1)) (sc (nib a 2)) x = sc (nib b c) ^^^ hexF (sc (nib b 0)) (sc (nib b 1)) (sc (nib b 2)) x →
      sc (nib (a ^^^ b) c) = hexF (sc (nib (a ^^^ b) 0)) (sc (nib (a ^^^ b) 1)) (sc (nib (a ^^^ b) 2)) x := by
    intro c x hx e
    rw [sc_nib_add, sc_nib_add, sc_nib_add, sc_nib_add, hexF_add (sc_lt a 0) (sc_lt a 1) (sc_lt b 0) (sc_lt b 1) hx]
    apply xor_eq_zero'
    rw [show sc (nib a c) ^^^ sc (nib b c) ^^^ (hexF (sc (nib a 0)) (sc (nib a 1)) (sc (nib a 2)) x ^^^ hexF (sc (nib b 0)) (sc (nib b 1)) (sc (nib b 2)) x) =
      (sc (nib a c) ^^^ hexF (sc (nib a 0)) (sc (nib a 1)) (sc (nib a 2)) x) ^^^ (sc (nib b c) ^^^ hexF (sc (nib b 0)) (sc (nib b 1)) (sc (nib b 2)) x) by ac_rfl, e, Nat.xor_self]
  have m2 := fun n : Nat => Nat.mod_lt n (show 0 < 2 by decide)
  obtain ⟨q1, q2, q3, q4, q5, q6, q7, q8, q9⟩ := unpack _ _ _ _ _ _ _ _ _ _ _ _ _ _ _ _ _ _ (m2 _) (m2 _) (m2 _) (m2 _) (m2 _) (m2 _) a1 a2 a3 (m2 _) (m2 _) (m2 _) (m2 _) (m2 _) (m2 _) b1 b2 b3 h
  have x3 := H 3 1 (by decide) q7
  have x4 := H 4 2 (by decide) q8
  have x5 := H 5 3 (by decide) q9
  clear H h a1 a2 a3 b1 b2 b3 q7 q8 q9 m2
  have t : ∀ x y z u v s : Nat, (x + y) % 2 = (z + u) % 2 → (v + y) % 2 = (s + u) % 2 → (x + z) % 2 = (v + s) % 2 := by intro x y z u v s h1 h2; omega
  unfold inCode
  simp only [Bool.and_eq_true, beq_iff_eq, par_nib_add, top_add]
  refine ⟨⟨⟨⟨⟨⟨?_, t _ _ _ _ _ _ q1 q6⟩, t _ _ _ _ _ _ q2 q6⟩, t _ _ _ _ _ _ q3 q6⟩, t _ _ _ _ _ _ q4 q6⟩, t _ _ _ _ _ _ q5 q6⟩, ?_⟩
  · clear q1 q2 q3 q4 q5; omega
  · simp only [inHex, scores, hexRow, List.getD, beq_iff_eq, List.cons.injEq, List.getElem?_cons_zero, List.getElem?_cons_succ, Option.getD_some, and_true, true_and]
    exact ⟨x3, x4, x5⟩
theorem pc_even (w m : Nat) (hm : m < 4096) : (pc (w ^^^ enc m) + pc w) % 2 = 0 := by
  have := pcN_xor w (enc m) 24
  have := enc_weight m hm
  unfold pc at *
  omega
end Gol
