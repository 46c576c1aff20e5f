/- Contracts of the tests whether a word is in the code, of both. No condition beyond those stated. -/
import Derived.Test.YtompdebingllmaaScore
import Derived.Test.YtompdebingllmaaHexIn
namespace Go.Proofs.Ytompdebingllmaa
open Go.RowKit Gol
theorem pc_nib : ∀ n, n < 16 → pc n = pcN 4 n := by decide +kernel
theorem nib_isW (n c : Nat) : IsW (nib n c : Nat) := IsW.mk _ (Nat.lt_trans (nib_lt n c) (by decide))
/-- the sum of the row 0's bits, column by column -/
def topN (n : Nat) : Nat → Nat
  | 0 => 0
  | k + 1 => topN n k + bitN n (4 * k)
theorem topN_le (n : Nat) : ∀ k, topN n k ≤ k
  | 0 => Nat.le_refl _
  | k + 1 => by
    have := topN_le n k
    have := bitN_lt n (4 * k)
    unfold topN
    omega
theorem top_topN (n : Nat) : topN n 6 % 2 = top n := by simp [topN, top]
theorem top_two (n : Nat) : top n < 2 := Nat.mod_lt _ (by decide)
def parN (n : Nat) : Nat → Bool
  | 0 => true
  | k + 1 => parN n k && (par (nib n k) == top n)
theorem in_parN (n : Nat) (h : parN n 6 = true) : inCode n = hexB (ints (scores n)) := by
  rw [hexB_row (scores_row n)]
  simp only [parN, Bool.true_and] at h
  simp only [inCode, h, Bool.true_and]
theorem in_no (n k : Nat) (hk : k < 6) (h : (par (nib n k) == top n) = false) : inCode n = false := by
  match k, hk with
  | 0, _ => simp [inCode, h]
  | 1, _ => simp [inCode, h]
  | 2, _ => simp [inCode, h]
  | 3, _ => simp [inCode, h]
  | 4, _ => simp [inCode, h]
  | 5, _ => simp [inCode, h]
theorem par_pc (n k : Nat) : par (nib n k) = pc (nib n k) % 2 := by rw [par, pc_nib _ (nib_lt n k)]
def CodeIs (x : Bool) (W : World) (e : Ending) (W' : World) : Prop := e = .returned (.bool x) ∧ Below W.heap.size W W'
def codeB (w : Int) : Bool := isW w && inCode w.toNat
theorem codeB_nat (n : Nat) (h : n < 16777216) : codeB n = inCode n := by simp [codeB, isW_yes (IsW.mk n h)]
theorem l3Column_any (n c : Nat) (hn : n < 16777216) (hc : c < 6) (W : World) :
    Calls Try.prog 80 #[.int .i64 n, .int .i64 c] W fun e W' => e = .returned (.int .i64 (nib n c : Nat)) ∧ W = W' := by
  have hb := shr_nib n c (by omega)
  have e4 : (4 * (c : Int)).toNat = 4 * c := by omega
  go_enter Try.func80, Try.ntmps80
  go_wp2
  go_ret
  exact ⟨rfl, rfl⟩
set_option maxHeartbeats 1000000 in
theorem l3Top_any (n : Nat) (hn : n < 16777216) (W : World) :
    Calls Try.prog 66 #[.int .i64 n] W fun e W' => e = .returned (.int .i64 (top n : Nat)) ∧ W = W' := by
  have Hn := Lib.hid hn
  have HT := Lib.hid (top_topN n)
  clear hn
  go_enter Try.func66, Try.ntmps66
  go_wp2
  go_loop [3, 4] (fun s i => ∃ k : Nat, k ≤ 6 ∧ i = .int .i64 k ∧ s = .int .i64 (topN n k % 2 : Nat)) (fun _ i => 6 - (intOf i).toNat)
  case atStart => exact ⟨0, by omega, rfl, rfl⟩
  case round =>
    obtain ⟨k, hk, rfl, rfl⟩ := hrel
    by_cases hlt : k < 6
    · have hb2 := bitN_lt n (4 * k)
      have hb : Hid (bitN (n : Int).toNat (4 * (k : Int)).toNat = bitN n (4 * k)) := Lib.hid (by rw [show (4 * (k : Int)).toNat = 4 * k by omega, Int.toNat_natCast])
      have hx := i64_xor (topN n k % 2) (bitN n (4 * k)) (by omega) (by omega)
      have Hs : Hid (topN n (k + 1) % 2 = topN n k % 2 ^^^ bitN n (4 * k)) := Lib.hid (by
        rw [bit_xor (Nat.mod_lt _ (by decide)) hb2]
        show (topN n k + bitN n (4 * k)) % 2 = _
        omega)
      generalize bitN n (4 * k) = b at *
      generalize topN n k % 2 = t at *
      go_wp2_with (go_at_call 67; refine (l1Bit_any _ _ (by omega) (by have := Hn.out; omega) (by omega) (by omega) _).mono ?_; rintro e w' ⟨rfl, rfl⟩; simp only [hb.out])
      go_round
      case rel => exact ⟨k + 1, by omega, by go_num, by rw [Hs.out]⟩
      case measure => simp [intOf]; omega
    · have e : k = 6 := by omega
      subst e
      rw [HT.out]
      go_wp2
      go_ret
      exact ⟨rfl, rfl⟩
set_option maxHeartbeats 1000000 in
theorem l3In_any (n : Nat) (hn : n < 16777216) (W : World) :
    Calls Try.prog 65 #[.int .i64 n] W (CodeIs (inCode n) W) := by
  have Hn := Lib.hid hn
  have Ht := Lib.hid (top_two n)
  clear hn
  go_enter Try.func65, Try.ntmps65
  go_wp2_with fail
  refine (l3Top_any n Hn.out _).mono ?_
  rintro e w1 ⟨rfl, rfl⟩
  go_wp2
  go_loop [4] (fun i => ∃ k : Nat, k ≤ 6 ∧ i = .int .i64 k ∧ parN n k = true) (fun i => 6 - (intOf i).toNat)
  case atStart => exact ⟨0, by omega, rfl, rfl⟩
  case round =>
    obtain ⟨k, hk, rfl, hp⟩ := hrel
    have Hp := Lib.hid hp
    clear hp
    by_cases hlt : k < 6
    · have hW := nib_isW n k
      have Hs : Hid (parN n (k + 1) = (parN n k && (par (nib n k) == top n))) := Lib.hid rfl
      have Hno := Lib.hid (in_no n k hlt)
      have Hpar := Lib.hid (par_pc n k)
      by_cases hq : pc (nib n k) % 2 = top n
      · have Hs2 : Hid (parN n (k + 1) = true) := Lib.hid (by rw [Hs.out, Hp.out, Hpar.out]; simp [hq])
        have hne : ((pc (nib n k) : Nat) : Int) % 2 = (top n : Nat) := by omega
        clear hq
        go_wp2_with (first | (go_at_call 80; refine (l3Column_any n k Hn.out hlt _).mono ?_; rintro e w' ⟨rfl, rfl⟩) | (go_at_call 63; refine (l1Weight_any _ hW _).mono ?_; rintro e w' ⟨rfl, rfl⟩; simp only [Int.toNat_natCast]))
        go_round
        case rel => exact ⟨k + 1, by omega, by go_num, Hs2.out⟩
        case measure => simp [intOf]; omega
      · have Hs2 : Hid (inCode n = false) := Lib.hid (Hno.out (by rw [Hpar.out]; simpa using hq))
        have hne : ((pc (nib n k) : Nat) : Int) % 2 ≠ (top n : Nat) := by omega
        clear hq
        rw [Hs2.out]
        go_wp2_with (first | (go_at_call 80; refine (l3Column_any n k Hn.out hlt _).mono ?_; rintro e w' ⟨rfl, rfl⟩) | (go_at_call 63; refine (l1Weight_any _ hW _).mono ?_; rintro e w' ⟨rfl, rfl⟩; simp only [Int.toNat_natCast]))
        go_ret
        exact ⟨rfl, Below.refl _ _⟩
    · have e : k = 6 := by omega
      subst e
      go_wp2_with fail
      refine (l3Scores_any n Hn.out _).mono ?_
      rintro e w1 ⟨a, cap, rfl, hown, hbel⟩
      go_wp2_with fail
      refine (specHexIn_any _ _ _ hown.rd (by rw [scores_len]; decide)).mono ?_
      rintro e w2 ⟨rfl, hb2⟩
      go_wp2
      go_ret
      exact ⟨by rw [in_parN n Hp.out]; rfl, hbel.trans (hb2.mono hbel.size)⟩
theorem specCodeIn_any (w : Int) (W : World) : Calls Try.prog 41 #[.int .i64 w] W (CodeIs (codeB w) W) := by
  by_cases hw : IsW w
  · obtain ⟨n, rfl, hn⟩ := hw.of
    rw [codeB_nat n hn]
    have h0 : 0 ≤ (n : Int) := hw.1
    have h1 : (n : Int) ≤ 16777215 := by omega
    have Hn := Lib.hid hn
    clear hn hw
    go_enter Try.func41, Try.ntmps41
    go_wp2_with (first | (go_at_call 65; refine (l3In_any n Hn.out _).mono ?_; rintro e w1 ⟨rfl, hbel⟩) | go_in)
    go_ret
    exact ⟨rfl, hbel⟩
  · have hz : codeB w = false := by simp [codeB, isW_no hw]
    rw [hz]
    by_cases h0 : 0 ≤ w
    · have h1 : ¬ w ≤ 16777215 := fun h => hw ⟨h0, by omega⟩
      have h2 : decide (w ≤ 16777215) = false := decide_eq_false h1
      clear hw hz
      go_enter Try.func41, Try.ntmps41
      go_wp2
      go_ret
      exact ⟨rfl, Below.refl _ _⟩
    · have h2 : decide (0 ≤ w) = false := decide_eq_false h0
      clear hw hz
      go_enter Try.func41, Try.ntmps41
      go_wp2
      go_ret
      exact ⟨rfl, Below.refl _ _⟩
set_option maxHeartbeats 1000000 in
theorem implCodeIn_any (w : Int) (W : World) : Calls Try.prog 28 #[.int .i64 w] W (CodeIs (codeB w) W) := by
  by_cases hw : IsW w
  · obtain ⟨n, rfl, hn⟩ := hw.of
    rw [codeB_nat n hn]
    have h0 : 0 ≤ (n : Int) := hw.1
    have h1 : (n : Int) ≤ 16777215 := by omega
    have Hn := Lib.hid hn
    have HT := Lib.hid (top_topN n)
    clear hn hw
    go_enter Try.func28, Try.ntmps28
    go_wp2
    clear h0 h1
    go_loop [3, 9] (fun s i => ∃ k : Nat, k ≤ 6 ∧ i = .int .i64 k ∧ s = .int .i64 (topN n k : Nat)) (fun _ i => 6 - (intOf i).toNat)
    case atStart => exact ⟨0, by omega, rfl, rfl⟩
    case round =>
      obtain ⟨k, hk, rfl, rfl⟩ := hrel
      by_cases hlt : k < 6
      · have hb2 := bitN_lt n (4 * k)
        have hle := topN_le n k
        have hb := shr_bit n (4 * k) (by have := Hn.out; omega)
        have e4 : (4 * (k : Int)).toNat = 4 * k := by omega
        have Hs : Hid (topN n (k + 1) = topN n k + bitN n (4 * k)) := Lib.hid rfl
        generalize bitN n (4 * k) = b at *
        generalize topN n k = t at *
        go_wp2
        go_round
        case rel => exact ⟨k + 1, by omega, by go_num, by rw [Hs.out]; go_num⟩
        case measure => simp [intOf]; omega
      · have e : k = 6 := by omega
        subst e
        have hle := topN_le n 6
        have HT2 := HT.out
        generalize topN n 6 = t at *
        go_wp2
        go_loop [20] (fun i => ∃ k : Nat, k ≤ 6 ∧ i = .int .i64 k ∧ parN n k = true) (fun i => 6 - (intOf i).toNat)
        case atStart => exact ⟨0, by omega, rfl, rfl⟩
        case round =>
          obtain ⟨k, hk, rfl, hp⟩ := hrel
          have Hp := Lib.hid hp
          clear hp
          by_cases hlt : k < 6
          · have hW := nib_isW n k
            have Hs : Hid (parN n (k + 1) = (parN n k && (par (nib n k) == top n))) := Lib.hid rfl
            have Hno := Lib.hid (in_no n k hlt)
            have Hpar := Lib.hid (par_pc n k)
            by_cases hq : pc (nib n k) % 2 = t % 2
            · have Hs2 : Hid (parN n (k + 1) = true) := Lib.hid (by rw [Hs.out, Hp.out, Hpar.out, ← HT2]; simp [hq])
              have hne : ((pc (nib n k) : Nat) : Int) % 2 = (t : Int) % 2 := by omega
              clear hq
              go_wp2_with (first | (go_at_call 55; refine (column_any n k Hn.out hlt _).mono ?_; rintro e w' ⟨rfl, rfl⟩) | (go_at_call 54; refine (weight_any _ hW _).mono ?_; rintro e w' ⟨rfl, rfl⟩; simp only [Int.toNat_natCast]))
              go_round
              case rel => exact ⟨k + 1, by omega, by go_num, Hs2.out⟩
              case measure => simp [intOf]; omega
            · have Hs2 : Hid (inCode n = false) := Lib.hid (Hno.out (by rw [Hpar.out, ← HT2]; simpa using hq))
              have hne : ((pc (nib n k) : Nat) : Int) % 2 ≠ (t : Int) % 2 := by omega
              clear hq
              rw [Hs2.out]
              go_wp2_with (first | (go_at_call 55; refine (column_any n k Hn.out hlt _).mono ?_; rintro e w' ⟨rfl, rfl⟩) | (go_at_call 54; refine (weight_any _ hW _).mono ?_; rintro e w' ⟨rfl, rfl⟩; simp only [Int.toNat_natCast]))
              go_ret
              exact ⟨rfl, Below.refl _ _⟩
          · have e : k = 6 := by omega
            subst e
            go_wp2_with fail
            refine (scores_any n Hn.out _).mono ?_
            rintro e w1 ⟨a, cap, rfl, hown, hbel⟩
            go_wp2_with fail
            refine (implHexIn_any _ _ _ hown.rd (by rw [scores_len]; decide)).mono ?_
            rintro e w2 ⟨rfl, hb2⟩
            go_wp2
            go_ret
            exact ⟨by rw [in_parN n Hp.out]; rfl, hbel.trans (hb2.mono hbel.size)⟩
  · have hz : codeB w = false := by simp [codeB, isW_no hw]
    rw [hz]
    by_cases h0 : 0 ≤ w
    · have h1 : ¬ w ≤ 16777215 := fun h => hw ⟨h0, by omega⟩
      have h2 : decide (w ≤ 16777215) = false := decide_eq_false h1
      clear hw hz
      go_enter Try.func28, Try.ntmps28
      go_wp2
      go_ret
      exact ⟨rfl, Below.refl _ _⟩
    · have h2 : decide (0 ≤ w) = false := decide_eq_false h0
      clear hw hz
      go_enter Try.func28, Try.ntmps28
      go_wp2
      go_ret
      exact ⟨rfl, Below.refl _ _⟩
end Go.Proofs.Ytompdebingllmaa
