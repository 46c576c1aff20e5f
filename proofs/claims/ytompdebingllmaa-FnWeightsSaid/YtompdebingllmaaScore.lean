/- Contracts of the columns of a word, their scores, and the list of scores, of both. No condition beyond those stated. -/
import Derived.Test.YtompdebingllmaaWords1
import Derived.Test.YtompdebingllmaaHexa
import Derived.Test.YtompdebingllmaaPlainC
namespace Go.Proofs.Ytompdebingllmaa
open Go.RowKit Gol
theorem and15 (x : Nat) : x &&& 15 = x % 16 := Nat.and_two_pow_sub_one_eq_mod x 4
theorem shr_nib (n c : Nat) (hn : n < 9223372036854775808) : bits .and .i64 ((n : Int) / 2 ^ (4 * c)) 15 = ((nib n c : Nat) : Int) := by
  rw [shr_nat]
  have := i64_and (n / 2 ^ (4 * c)) 15 (Nat.lt_of_le_of_lt (Nat.div_le_self _ _) hn) (by decide)
  rw [and15] at this
  exact this
theorem column_any (n c : Nat) (hn : n < 16777216) (hc : c < 6) (W : World) :
    Calls Try.prog 55 #[.int .i64 n, .int .i64 c] W fun e W' => e = .returned (.int .i64 (nib n c : Nat)) ∧ W = W' := by
  have hb := shr_nib n c (by omega)
  have e4 : (4 * (c : Int)).toNat = 4 * c := by omega
  go_enter Try.func55, Try.ntmps55
  go_wp2
  go_ret
  exact ⟨rfl, rfl⟩
/-- the sum of the rows of bits, row by row -/
def scK (n : Nat) : Nat → Nat
  | 0 => 0
  | k + 1 => scK n k ^^^ (if bitN n k = 1 then k else 0)
theorem scK_four (n : Nat) : scK n 4 = sc n := by simp [scK, sc]
theorem scK_lt (n : Nat) : ∀ k, k ≤ 4 → scK n k < 4
  | 0, _ => by show 0 < 4; decide
  | k + 1, h => by
    have ih := scK_lt n k (by omega)
    unfold scK
    exact xor_lt4 ih (by split <;> omega)
theorem nib_bits (w c r : Nat) (hr : r < 4) : bitN (nib w c) r = bitN w (4 * c + r) := by
  unfold bitN nib
  rw [Nat.pow_add, ← Nat.div_div_eq_div_mul]
  generalize w / 2 ^ (4 * c) = x
  have : r = 0 ∨ r = 1 ∨ r = 2 ∨ r = 3 := by omega
  rcases this with rfl | rfl | rfl | rfl <;> simp <;> omega
set_option maxHeartbeats 1000000 in
theorem score_any (n : Nat) (hn : n < 16) (W : World) :
    Calls Try.prog 74 #[.int .i64 n] W fun e W' => e = .returned (.int .i64 (sc n : Nat)) ∧ W = W' := by
  have Hn := Lib.hid hn
  clear hn
  have H4 := Lib.hid (scK_four n)
  go_enter Try.func74, Try.ntmps74
  go_wp2
  go_loop [3, 5] (fun s i => ∃ k : Nat, k ≤ 4 ∧ i = .int .i64 k ∧ s = .int .i64 (scK n k : Nat)) (fun _ i => 4 - (intOf i).toNat)
  case atStart => exact ⟨0, by omega, rfl, rfl⟩
  case round =>
    obtain ⟨k, hk, rfl, rfl⟩ := hrel
    by_cases hlt : k < 4
    · have hl := scK_lt n k hk
      have Hs : Hid (scK n (k + 1) = scK n k ^^^ (if bitN n k = 1 then k else 0)) := Lib.hid rfl
      have hb := shr_bit n k (by have := Hn.out; omega)
      have hx := i64_xor (scK n k) k (by omega) (by omega)
      have hb2 := bitN_lt n k
      generalize bitN n k = b at *
      generalize scK n k = s at *
      by_cases h1 : b = 1
      · subst h1
        have Hs2 : Hid (scK n (k + 1) = s ^^^ k) := Lib.hid (by rw [Hs.out, if_pos rfl])
        go_wp2
        go_round
        case rel => exact ⟨k + 1, by omega, by go_num, by rw [Hs2.out]⟩
        case measure => simp [intOf]; omega
      · have h0 : b = 0 := by omega
        subst h0
        have Hs2 : Hid (scK n (k + 1) = s) := Lib.hid (by rw [Hs.out, if_neg h1, Nat.xor_zero])
        clear h1
        go_wp2
        go_round
        case rel => exact ⟨k + 1, by omega, by go_num, by rw [Hs2.out]⟩
        case measure => simp [intOf]; omega
    · have e : k = 4 := by omega
      subst e
      go_wp2
      go_ret
      exact ⟨ret_int (by rw [H4.out]), rfl⟩
set_option maxHeartbeats 1000000 in
theorem l3Score_any (n c : Nat) (hn : n < 16777216) (hc : c < 6) (W : World) :
    Calls Try.prog 75 #[.int .i64 n, .int .i64 c] W fun e W' => e = .returned (.int .i64 (sc (nib n c) : Nat)) ∧ W = W' := by
  have Hn := Lib.hid hn
  have H4 := Lib.hid (scK_four (nib n c))
  clear hn
  go_enter Try.func75, Try.ntmps75
  go_wp2
  go_loop [5, 6] (fun s i => ∃ k : Nat, k ≤ 4 ∧ i = .int .i64 k ∧ s = .int .i64 (scK (nib n c) k : Nat)) (fun _ i => 4 - (intOf i).toNat)
  case atStart => exact ⟨0, by omega, rfl, rfl⟩
  case round =>
    obtain ⟨k, hk, rfl, rfl⟩ := hrel
    by_cases hlt : k < 4
    · have hl := scK_lt (nib n c) k hk
      have Hs : Hid (scK (nib n c) (k + 1) = scK (nib n c) k ^^^ (if bitN (nib n c) k = 1 then k else 0)) := Lib.hid rfl
      have hb : Hid (bitN (n : Int).toNat (4 * (c : Int) + k).toNat = bitN (nib n c) k) := Lib.hid (by
        rw [nib_bits n c k hlt, show (4 * (c : Int) + k).toNat = 4 * c + k by omega, Int.toNat_natCast])
      have hx := i64_xor (scK (nib n c) k) k (by omega) (by omega)
      have hb2 := bitN_lt (nib n c) k
      generalize bitN (nib n c) k = b at *
      generalize hsc : scK (nib n c) k = s at *
      by_cases h1 : b = 1
      · subst h1
        have Hs2 : Hid (scK (nib n c) (k + 1) = s ^^^ k) := Lib.hid (by rw [Hs.out, if_pos rfl])
        clear hsc
        go_wp2_with (go_at_call 67; refine (l1Bit_any _ _ (by omega) (by have := Hn.out; omega) (by omega) (by omega) _).mono ?_; rintro e w' ⟨rfl, rfl⟩; simp only [hb.out])
        go_round
        case rel => exact ⟨k + 1, by omega, by go_num, by rw [Hs2.out]⟩
        case measure => simp [intOf]; omega
      · have h0 : b = 0 := by omega
        subst h0
        have Hs2 : Hid (scK (nib n c) (k + 1) = s) := Lib.hid (by rw [Hs.out, if_neg h1, Nat.xor_zero])
        clear h1 hsc
        go_wp2_with (go_at_call 67; refine (l1Bit_any _ _ (by omega) (by have := Hn.out; omega) (by omega) (by omega) _).mono ?_; rintro e w' ⟨rfl, rfl⟩; simp only [hb.out])
        go_round
        case rel => exact ⟨k + 1, by omega, by go_num, by rw [Hs2.out]⟩
        case measure => simp [intOf]; omega
    · have e : k = 4 := by omega
      subst e
      go_wp2
      go_ret
      exact ⟨ret_int (by rw [H4.out]), rfl⟩
theorem scores_take (n k : Nat) (hk : k < 6) : ints ((scores n).take (k + 1)) = ints ((scores n).take k) ++ [((sc (nib n k) : Nat) : Int)] := by
  match k, hk with
  | 0, _ => rfl
  | 1, _ => rfl
  | 2, _ => rfl
  | 3, _ => rfl
  | 4, _ => rfl
  | 5, _ => rfl
theorem scores_len (n : Nat) : (ints (scores n)).length = 6 := rfl
set_option maxHeartbeats 1000000 in
theorem scores_any (n : Nat) (hn : n < 16777216) (W : World) :
    Calls Try.prog 56 #[.int .i64 n] W (RetOwns W.heap.size (ints (scores n)) W) := by
  have Hn := Lib.hid hn
  clear hn
  go_enter Try.func56, Try.ntmps56
  go_wp2
  go_loopw [3, 6] (fun v i wr => ∃ k : Nat, k ≤ 6 ∧ i = .int .i64 k ∧ Owns wr W.heap.size v (ints ((scores n).take k)) ∧ Below W.heap.size W wr) (fun _ i _ => 6 - (intOf i).toNat)
  case atStart => exact ⟨0, by omega, rfl, Owns.made _ _ (Nat.le_refl _), (Below.refl _ _).alloc (Nat.le_refl _) _⟩
  case round =>
    obtain ⟨k, hk, rfl, hown, hbel⟩ := hrel
    by_cases hlt : k < 6
    · have Hs := Lib.hid (scores_take n k hlt)
      have hlen : Hid ((ints ((scores n).take k)).length ≤ 1000000) := Lib.hid (by rw [ints_length, List.length_take]; omega)
      have hnl := nib_lt n k
      generalize (scores n).take k = L at *
      go_wp2_with (first | (go_at_call 55; refine (column_any n k Hn.out hlt _).mono ?_; rintro e w' ⟨rfl, rfl⟩) | (go_at_call 74; refine (score_any _ hnl _).mono ?_; rintro e w' ⟨rfl, rfl⟩) | (at_builtin; refine wpList_append_int rfl _ _ rfl W W.heap.size _ _ ((sc (nib n k) : Nat) : Int) (by rfl) (by rfl) hown hbel (Nat.le_refl _) hlen.out ?_; intro v1 w1 hown1 hbel1))
      go_roundw
      case rel => exact ⟨k + 1, by omega, by go_num, by rw [Hs.out]; exact hown1, hbel1⟩
      case measure => simp [intOf]; omega
    · have e : k = 6 := by omega
      subst e
      go_wp2
      go_ret
      exact RetOwns.mk hown hbel
set_option maxHeartbeats 1000000 in
theorem l3Scores_any (n : Nat) (hn : n < 16777216) (W : World) :
    Calls Try.prog 57 #[.int .i64 n] W (RetOwns W.heap.size (ints (scores n)) W) := by
  have Hn := Lib.hid hn
  clear hn
  go_enter Try.func57, Try.ntmps57
  go_wp2
  go_loopw [3, 4] (fun v i wr => ∃ k : Nat, k ≤ 6 ∧ i = .int .i64 k ∧ Owns wr W.heap.size v (ints ((scores n).take k)) ∧ Below W.heap.size W wr) (fun _ i _ => 6 - (intOf i).toNat)
  case atStart => exact ⟨0, by omega, rfl, Owns.made _ _ (Nat.le_refl _), (Below.refl _ _).alloc (Nat.le_refl _) _⟩
  case round =>
    obtain ⟨k, hk, rfl, hown, hbel⟩ := hrel
    by_cases hlt : k < 6
    · have Hs := Lib.hid (scores_take n k hlt)
      have hlen : Hid ((ints ((scores n).take k)).length ≤ 1000000) := Lib.hid (by rw [ints_length, List.length_take]; omega)
      generalize (scores n).take k = L at *
      go_wp2_with (first | (go_at_call 75; refine (l3Score_any n k Hn.out hlt _).mono ?_; rintro e w' ⟨rfl, rfl⟩) | (at_builtin; refine wpList_append_int rfl _ _ rfl W W.heap.size _ _ ((sc (nib n k) : Nat) : Int) (by rfl) (by rfl) hown hbel (Nat.le_refl _) hlen.out ?_; intro v1 w1 hown1 hbel1))
      go_roundw
      case rel => exact ⟨k + 1, by omega, by go_num, by rw [Hs.out]; exact hown1, hbel1⟩
      case measure => simp [intOf]; omega
    · have e : k = 6 := by omega
      subst e
      go_wp2
      go_ret
      exact RetOwns.mk hown hbel
/-- whether a number is a word -/
def isW (w : Int) : Bool := decide (0 ≤ w ∧ w < 16777216)
theorem isW_yes {w : Int} (h : IsW w) : isW w = true := by simpa [isW, IsW] using h
theorem isW_no {w : Int} (h : ¬ IsW w) : isW w = false := by simpa [isW, IsW] using h
def scoreZ (w : Int) : List Int := if isW w then ints (scores w.toNat) else []
theorem scoreZ_len (w : Int) : (scoreZ w).length ≤ 1000000000000 := by
  unfold scoreZ
  split
  · rw [scores_len]; decide
  · simp
theorem implScores_any (w : Int) (W : World) : Calls Try.prog 31 #[.int .i64 w] W (RetOwns2 W.heap.size (scoreZ w) (isW w) W) := by
  by_cases hw : IsW w
  · obtain ⟨n, rfl, hn⟩ := hw.of
    have hz : scoreZ n = ints (scores n) := by simp [scoreZ, isW_yes hw]
    rw [hz, isW_yes hw]
    have h0 : 0 ≤ (n : Int) := hw.1
    have h1 : (n : Int) ≤ 16777215 := by omega
    have Hn := Lib.hid hn
    clear hz hn hw
    go_enter Try.func31, Try.ntmps31
    go_wp2_with (first | (go_at_call 56; refine (scores_any n Hn.out _).mono ?_; rintro e w1 ⟨a, cap, rfl, hown, hbel⟩) | go_in)
    go_ret2
    exact RetOwns2.mk hown hbel
  · have hz : scoreZ w = [] := by simp [scoreZ, isW_no hw]
    rw [hz, isW_no hw]
    by_cases h0 : 0 ≤ w
    · have h1 : ¬ w ≤ 16777215 := fun h => hw ⟨h0, by omega⟩
      clear hw hz
      go_enter Try.func31, Try.ntmps31
      go_wp2
      go_ret2
      exact RetOwns2.mk (Owns.made _ _ (Nat.le_refl _)) ((Below.refl _ _).alloc (Nat.le_refl _) _)
    · clear hw hz
      go_enter Try.func31, Try.ntmps31
      go_wp2
      go_ret2
      exact RetOwns2.mk (Owns.made _ _ (Nat.le_refl _)) ((Below.refl _ _).alloc (Nat.le_refl _) _)
theorem specScores_any (w : Int) (W : World) : Calls Try.prog 30 #[.int .i64 w] W (RetOwns2 W.heap.size (scoreZ w) (isW w) W) := by
  by_cases hw : IsW w
  · obtain ⟨n, rfl, hn⟩ := hw.of
    have hz : scoreZ n = ints (scores n) := by simp [scoreZ, isW_yes hw]
    rw [hz, isW_yes hw]
    have h0 : 0 ≤ (n : Int) := hw.1
    have h1 : (n : Int) ≤ 16777215 := by omega
    have Hn := Lib.hid hn
    clear hz hn hw
    go_enter Try.func30, Try.ntmps30
    go_wp2_with (first | (go_at_call 57; refine (l3Scores_any n Hn.out _).mono ?_; rintro e w1 ⟨a, cap, rfl, hown, hbel⟩) | go_in)
    go_ret2
    exact RetOwns2.mk hown hbel
  · have hz : scoreZ w = [] := by simp [scoreZ, isW_no hw]
    rw [hz, isW_no hw]
    by_cases h0 : 0 ≤ w
    · have h1 : ¬ w ≤ 16777215 := fun h => hw ⟨h0, by omega⟩
      clear hw hz
      go_enter Try.func30, Try.ntmps30
      go_wp2
      go_ret2
      exact RetOwns2.mk (Owns.made _ _ (Nat.le_refl _)) ((Below.refl _ _).alloc (Nat.le_refl _) _)
    · clear hw hz
      go_enter Try.func30, Try.ntmps30
      go_wp2
      go_ret2
      exact RetOwns2.mk (Owns.made _ _ (Nat.le_refl _)) ((Below.refl _ _).alloc (Nat.le_refl _) _)
end Go.Proofs.Ytompdebingllmaa
