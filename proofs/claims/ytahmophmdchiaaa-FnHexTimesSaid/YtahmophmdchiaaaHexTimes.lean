/- Contracts of products of a row with a digit, of both. No condition beyond those stated. -/
import Derived.Test.YtahmophmdchiaaaHexAdd
namespace Go.Proofs.Ytahmophmdchiaaa
open Go.RowKit Gol
set_option maxHeartbeats 1000000 in
theorem implHexTimes_any (va : Value) (za : List Int) (x : Int) (W : World) (ha : Rd W va za) (hla : za.length ≤ 1048576) :
    Calls Try.prog 40 #[va, .int .i64 x] W (RetOwns2 W.heap.size (timesZ za x) (rowB za && dig x) W) := by
  have Ha := Lib.hid ha
  have Hla := Lib.hid hla
  clear hla
  by_cases hA : rowB za = true
  · have HA := Lib.hid hA
    by_cases hB : dig x = true
    · have HB := Lib.hid hB
      obtain ⟨x0, x1⟩ := dig_iff.1 hB
      obtain ⟨n, rfl⟩ := Int.eq_ofNat_of_zero_le x0
      have n4 : n < 4 := by omega
      obtain ⟨l, b1, f1, c1, hl, rfl, rfl, hlt1, hc1⟩ := rd_row ha hA
      rw [hA, hB, timesZ_row hl n n4, Bool.and_self]
      have Hl := Lib.hid hl
      have Hc1 := Lib.hid hc1
      clear ha hA hB hl hc1 x0 x1
      go_enter Try.func40, Try.ntmps40
      go_wp2_with fail
      refine (rowOk_any _ _ _ (Ha.out.kept ((Below.refl _ _).alloc (Nat.le_refl _) _)) Hla.out).mono ?_
      rintro e w1 ⟨rfl, rfl⟩
      rw [HA.out]
      go_wp2_with fail
      refine (digitOk_any _ _).mono ?_
      rintro e w1 ⟨rfl, rfl⟩
      rw [HB.out]
      go_wp2
      go_loopw [6, 8, 21] (fun o u8 i wr => ∃ k : Nat, k ≤ 6 ∧ i = .int .i64 k ∧ Owns wr W.heap.size o (ints ((timesL n l).take k)) ∧ Below W.heap.size W wr) (fun _ _ i _ => 6 - (intOf i).toNat)
      case atStart => exact ⟨0, by omega, rfl, Owns.made _ _ (Nat.le_refl _), (Below.refl _ _).alloc (Nat.le_refl _) _⟩
      case round =>
        obtain ⟨k, hk, rfl, hown, hbel⟩ := hrel
        by_cases hlt : k < 6
        · have hx1 := (hbel.cell (p := ⟨b1, f1 + k, none⟩) hlt1).trans (Hc1.out k hlt)
          have hq1 := row_getD Hl.out k hlt
          have Hs := Lib.hid (timesL_take n Hl.out k hlt)
          generalize l.getD k 0 = p at hx1 hq1 Hs
          have hlen : Hid ((ints ((timesL n l).take k)).length ≤ 1000000) := by
            have : (ints ((timesL n l).take k)).length ≤ 1000000 := Nat.le_trans (ints_take_len _ _) (by omega)
            exact this
          go_wp2_with (first | (go_at_call 56; refine (times_any _ _ (by omega) (by omega) (by omega) (by omega) _).mono ?_; rintro e w' ⟨rfl, rfl⟩; simp only [Int.toNat_natCast]) | (at_builtin; refine wpList_append_int rfl _ _ rfl W W.heap.size _ _ ((times p n : Nat) : Int) (by rfl) (by rfl) hown hbel (Nat.le_refl _) hlen.out ?_; intro v1 w1 hown1 hbel1) | go_in)
          go_roundw
          case rel => exact ⟨k + 1, by omega, by go_num, by rw [Hs.out]; exact hown1, hbel1⟩
          case measure => simp [intOf]; omega
        · have e : k = 6 := by omega
          subst e
          have h6 : Hid ((timesL n l).take 6 = timesL n l) := by
            have : (timesL n l).take 6 = timesL n l := List.take_of_length_le (by rw [(timesL_row Hl.out n4).1]; exact Nat.le_refl _)
            exact this
          rw [h6.out] at hown
          go_wp2
          go_ret2
          exact RetOwns2.mk hown hbel
    · have hB : dig x = false := by simpa using hB
      have hv : timesZ za x = [] := by simp [timesZ, hB]
      rw [hA, hB]
      obtain ⟨a1, c1, rfl⟩ := rd_form ha
      have Hz := Lib.hid hv
      clear ha hv
      rw [Hz.out]
      go_enter Try.func40, Try.ntmps40
      go_wp2_with fail
      refine (rowOk_any _ _ _ (Ha.out.kept ((Below.refl _ _).alloc (Nat.le_refl _) _)) Hla.out).mono ?_
      rintro e w1 ⟨rfl, rfl⟩
      rw [HA.out]
      go_wp2_with fail
      refine (digitOk_any _ _).mono ?_
      rintro e w1 ⟨rfl, rfl⟩
      rw [hB]
      go_wp2
      go_ret2
      exact RetOwns2.mk (Owns.made _ _ (Nat.le_refl _)) ((Below.refl _ _).alloc (Nat.le_refl _) _)
  · have hA : rowB za = false := by simpa using hA
    have hv : timesZ za x = [] := by simp [timesZ, hA]
    rw [hA]
    obtain ⟨a1, c1, rfl⟩ := rd_form ha
    have Hz := Lib.hid hv
    clear ha hv
    rw [Hz.out]
    go_enter Try.func40, Try.ntmps40
    go_wp2_with fail
    refine (rowOk_any _ _ _ (Ha.out.kept ((Below.refl _ _).alloc (Nat.le_refl _) _)) Hla.out).mono ?_
    rintro e w1 ⟨rfl, rfl⟩
    rw [hA]
    go_wp2
    go_ret2
    exact RetOwns2.mk (Owns.made _ _ (Nat.le_refl _)) ((Below.refl _ _).alloc (Nat.le_refl _) _)
set_option maxHeartbeats 1000000 in
theorem specHexTimes_any (va : Value) (za : List Int) (x : Int) (W : World) (ha : Rd W va za) (hla : za.length ≤ 1048576) :
    Calls Try.prog 39 #[va, .int .i64 x] W (RetOwns2 W.heap.size (timesZ za x) (rowB za && dig x) W) := by
  have Ha := Lib.hid ha
  have Hla := Lib.hid hla
  clear hla
  by_cases hA : rowB za = true
  · have HA := Lib.hid hA
    by_cases hB : dig x = true
    · have HB := Lib.hid hB
      obtain ⟨x0, x1⟩ := dig_iff.1 hB
      obtain ⟨n, rfl⟩ := Int.eq_ofNat_of_zero_le x0
      have n4 : n < 4 := by omega
      obtain ⟨l, b1, f1, c1, hl, rfl, rfl, hlt1, hc1⟩ := rd_row ha hA
      rw [hA, hB, timesZ_row hl n n4, Bool.and_self]
      have Hl := Lib.hid hl
      have Hc1 := Lib.hid hc1
      clear ha hA hB hl hc1 x0 x1
      go_enter Try.func39, Try.ntmps39
      go_wp2_with fail
      refine (l2Row_any _ _ _ (Ha.out.kept ((Below.refl _ _).alloc (Nat.le_refl _) _)) Hla.out).mono ?_
      rintro e w1 ⟨rfl, rfl⟩
      rw [HA.out]
      go_wp2_with fail
      refine (l2Digit_any _ _).mono ?_
      rintro e w1 ⟨rfl, rfl⟩
      rw [HB.out]
      go_wp2
      go_loopw [6, 7] (fun o i wr => ∃ k : Nat, k ≤ 6 ∧ i = .int .i64 k ∧ Owns wr W.heap.size o (ints ((timesL n l).take k)) ∧ Below W.heap.size W wr) (fun _ i _ => 6 - (intOf i).toNat)
      case atStart => exact ⟨0, by omega, rfl, Owns.made _ _ (Nat.le_refl _), (Below.refl _ _).alloc (Nat.le_refl _) _⟩
      case round =>
        obtain ⟨k, hk, rfl, hown, hbel⟩ := hrel
        by_cases hlt : k < 6
        · have hx1 := (hbel.cell (p := ⟨b1, f1 + k, none⟩) hlt1).trans (Hc1.out k hlt)
          have hq1 := row_getD Hl.out k hlt
          have Hs := Lib.hid (timesL_take n Hl.out k hlt)
          generalize l.getD k 0 = p at hx1 hq1 Hs
          have hlen : Hid ((ints ((timesL n l).take k)).length ≤ 1000000) := by
            have : (ints ((timesL n l).take k)).length ≤ 1000000 := Nat.le_trans (ints_take_len _ _) (by omega)
            exact this
          go_wp2_with (first | (go_at_call 55; refine (l2Times_any _ _ (by omega) (by omega) (by omega) (by omega) _).mono ?_; rintro e w' ⟨rfl, rfl⟩; simp only [Int.toNat_natCast]) | (at_builtin; refine wpList_append_int rfl _ _ rfl W W.heap.size _ _ ((times p n : Nat) : Int) (by rfl) (by rfl) hown hbel (Nat.le_refl _) hlen.out ?_; intro v1 w1 hown1 hbel1) | go_in)
          go_roundw
          case rel => exact ⟨k + 1, by omega, by go_num, by rw [Hs.out]; exact hown1, hbel1⟩
          case measure => simp [intOf]; omega
        · have e : k = 6 := by omega
          subst e
          have h6 : Hid ((timesL n l).take 6 = timesL n l) := by
            have : (timesL n l).take 6 = timesL n l := List.take_of_length_le (by rw [(timesL_row Hl.out n4).1]; exact Nat.le_refl _)
            exact this
          rw [h6.out] at hown
          go_wp2
          go_ret2
          exact RetOwns2.mk hown hbel
    · have hB : dig x = false := by simpa using hB
      have hv : timesZ za x = [] := by simp [timesZ, hB]
      rw [hA, hB]
      obtain ⟨a1, c1, rfl⟩ := rd_form ha
      have Hz := Lib.hid hv
      clear ha hv
      rw [Hz.out]
      go_enter Try.func39, Try.ntmps39
      go_wp2_with fail
      refine (l2Row_any _ _ _ (Ha.out.kept ((Below.refl _ _).alloc (Nat.le_refl _) _)) Hla.out).mono ?_
      rintro e w1 ⟨rfl, rfl⟩
      rw [HA.out]
      go_wp2_with fail
      refine (l2Digit_any _ _).mono ?_
      rintro e w1 ⟨rfl, rfl⟩
      rw [hB]
      go_wp2
      go_ret2
      exact RetOwns2.mk (Owns.made _ _ (Nat.le_refl _)) ((Below.refl _ _).alloc (Nat.le_refl _) _)
  · have hA : rowB za = false := by simpa using hA
    have hv : timesZ za x = [] := by simp [timesZ, hA]
    rw [hA]
    obtain ⟨a1, c1, rfl⟩ := rd_form ha
    have Hz := Lib.hid hv
    clear ha hv
    rw [Hz.out]
    go_enter Try.func39, Try.ntmps39
    go_wp2_with fail
    refine (l2Row_any _ _ _ (Ha.out.kept ((Below.refl _ _).alloc (Nat.le_refl _) _)) Hla.out).mono ?_
    rintro e w1 ⟨rfl, rfl⟩
    rw [hA]
    go_wp2
    go_ret2
    exact RetOwns2.mk (Owns.made _ _ (Nat.le_refl _)) ((Below.refl _ _).alloc (Nat.le_refl _) _)
end Go.Proofs.Ytahmophmdchiaaa
