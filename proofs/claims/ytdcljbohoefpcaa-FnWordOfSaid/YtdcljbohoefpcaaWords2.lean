/- Contracts of the two lists of places. No condition beyond those stated. -/
import Derived.Test.YtdcljbohoefpcaaOwn
import Derived.Test.YtdcljbohoefpcaaWords1
namespace Go.Proofs.Ytdcljbohoefpcaa
open Go.RowKit Gol
def intsOf (l : List Nat) : List Int := l.map Int.ofNat
theorem intsOf_length (l : List Nat) : (intsOf l).length = l.length := List.length_map ..
set_option maxHeartbeats 400000 in
theorem placesOf_any (w : Int) (hw : IsW w) (W : World) :
    Calls Try.prog 58 #[.int .i64 w] W (RetOwns W.heap.size (intsOf (places w.toNat)) W) := by
  obtain ⟨n, rfl, hn⟩ := hw.of
  have Hn := Lib.hid hn
  clear hn hw
  go_enter Try.func58, Try.ntmps58
  go_wp2
  go_loopw [3, 6] (fun v i wr => ∃ k : Nat, k ≤ 24 ∧ i = .int .i64 k ∧ Owns wr W.heap.size v (intsOf (plN k n)) ∧ Below W.heap.size W wr) (fun _ i _ => 24 - (intOf i).toNat)
  case atStart => exact ⟨0, by omega, rfl, Owns.made _ _ (Nat.le_refl _), (Below.refl _ _).alloc (Nat.le_refl _) _⟩
  case round =>
    obtain ⟨k, hk, rfl, hown, hbel⟩ := hrel
    have hb := shr_bit n k (by have := Hn.out; omega)
    by_cases hlt : k < 24
    · by_cases h1 : bitN n k = 1
      · have ht : ((bitN n k : Nat) : Int) = 1 := by omega
        have Hl := Lib.hid (plN_length k n)
        have Hp := Lib.hid (pcN_le k n)
        go_wp2_with (at_builtin; refine wpList_append_int rfl _ _ rfl W W.heap.size _ _ k (by rfl) (by rfl) hown hbel (Nat.le_refl _) (by rw [intsOf_length, Hl.out]; have := Hp.out; omega) ?_; intro v1 w1 hown1 hbel1)
        go_roundw
        case rel => exact ⟨k + 1, by omega, by go_num, by simpa [intsOf, plN, h1] using hown1, hbel1⟩
        case measure => simp [intOf]; omega
      · have ht : ¬ ((bitN n k : Nat) : Int) = 1 := by omega
        go_wp2
        go_roundw
        case rel => exact ⟨k + 1, by omega, by go_num, by simpa [intsOf, plN, h1] using hown, hbel⟩
        case measure => simp [intOf]; omega
    · go_wp2
      obtain rfl : k = 24 := by omega
      go_ret
      exact RetOwns.mk hown hbel
set_option maxHeartbeats 400000 in
theorem l1Places_any (w : Int) (hw : IsW w) (W : World) :
    Calls Try.prog 57 #[.int .i64 w] W (RetOwns W.heap.size (intsOf (places w.toNat)) W) := by
  obtain ⟨n, rfl, hn⟩ := hw.of
  have Hn := Lib.hid hn
  clear hn hw
  go_enter Try.func57, Try.ntmps57
  go_wp2
  go_loopw [3, 4] (fun v i wr => ∃ k : Nat, k ≤ 24 ∧ i = .int .i64 k ∧ Owns wr W.heap.size v (intsOf (plN k n)) ∧ Below W.heap.size W wr) (fun _ i _ => 24 - (intOf i).toNat)
  case atStart => exact ⟨0, by omega, rfl, Owns.made _ _ (Nat.le_refl _), (Below.refl _ _).alloc (Nat.le_refl _) _⟩
  case round =>
    obtain ⟨k, hk, rfl, hown, hbel⟩ := hrel
    by_cases hlt : k < 24
    · have Hl := Lib.hid (plN_length k n)
      have Hp := Lib.hid (pcN_le k n)
      by_cases h1 : bitN n k = 1
      · have ht : ((bitN n k : Nat) : Int) = 1 := by omega
        go_wp2_with (first | (go_at_call 55; refine (l1Bit_any _ _ (by omega) (by have := Hn.out; omega) (by omega) (by omega) _).mono ?_; rintro e w' ⟨rfl, rfl⟩; simp only [Int.toNat_natCast]) | (at_builtin; refine wpList_append_int rfl _ _ rfl W W.heap.size _ _ k (by rfl) (by rfl) hown hbel (Nat.le_refl _) (by rw [intsOf_length, Hl.out]; have := Hp.out; omega) ?_; intro v1 w1 hown1 hbel1))
        go_roundw
        case rel => exact ⟨k + 1, by omega, by go_num, by simpa [intsOf, plN, h1] using hown1, hbel1⟩
        case measure => simp [intOf]; omega
      · have ht : ¬ ((bitN n k : Nat) : Int) = 1 := by omega
        go_wp2_with (go_at_call 55; refine (l1Bit_any _ _ (by omega) (by have := Hn.out; omega) (by omega) (by omega) _).mono ?_; rintro e w' ⟨rfl, rfl⟩; simp only [Int.toNat_natCast])
        go_roundw
        case rel => exact ⟨k + 1, by omega, by go_num, by simpa [intsOf, plN, h1] using hown, hbel⟩
        case measure => simp [intOf]; omega
    · go_wp2
      obtain rfl : k = 24 := by omega
      go_ret
      exact RetOwns.mk hown hbel
theorem implPlaces_yes (w : Int) (hw : IsW w) (W : World) : Calls Try.prog 34 #[.int .i64 w] W (RetOwns2 W.heap.size (intsOf (places w.toNat)) true W) := by
  have h0 : 0 ≤ w := hw.1
  have h1 : w ≤ 16777215 := by have := hw.2; omega
  have Hw := Lib.hid hw
  clear hw
  go_enter Try.func34, Try.ntmps34
  go_wp2_with (first | (go_at_call 58; refine (placesOf_any _ Hw.out _).mono ?_; rintro e w1 ⟨a, cap, rfl, hown, hbel⟩) | go_in)
  go_ret2
  exact RetOwns2.mk hown hbel
theorem implPlaces_no (w : Int) (hw : ¬ IsW w) (W : World) : Calls Try.prog 34 #[.int .i64 w] W (RetOwns2 W.heap.size [] false W) := by
  by_cases h0 : 0 ≤ w
  · have h1 : ¬ w ≤ 16777215 := fun h => hw ⟨h0, by omega⟩
    clear hw
    go_enter Try.func34, Try.ntmps34
    go_wp2
    go_ret2
    exact RetOwns2.mk (Owns.made _ _ (Nat.le_refl _)) ((Below.refl _ _).alloc (Nat.le_refl _) _)
  · clear hw
    go_enter Try.func34, Try.ntmps34
    go_wp2
    go_ret2
    exact RetOwns2.mk (Owns.made _ _ (Nat.le_refl _)) ((Below.refl _ _).alloc (Nat.le_refl _) _)
theorem specPlaces_yes (w : Int) (hw : IsW w) (W : World) : Calls Try.prog 33 #[.int .i64 w] W (RetOwns2 W.heap.size (intsOf (places w.toNat)) true W) := by
  have h0 : 0 ≤ w := hw.1
  have h1 : w ≤ 16777215 := by have := hw.2; omega
  have Hw := Lib.hid hw
  clear hw
  go_enter Try.func33, Try.ntmps33
  go_wp2_with (first | (go_at_call 57; refine (l1Places_any _ Hw.out _).mono ?_; rintro e w1 ⟨a, cap, rfl, hown, hbel⟩) | go_in)
  go_ret2
  exact RetOwns2.mk hown hbel
theorem specPlaces_no (w : Int) (hw : ¬ IsW w) (W : World) : Calls Try.prog 33 #[.int .i64 w] W (RetOwns2 W.heap.size [] false W) := by
  by_cases h0 : 0 ≤ w
  · have h1 : ¬ w ≤ 16777215 := fun h => hw ⟨h0, by omega⟩
    clear hw
    go_enter Try.func33, Try.ntmps33
    go_wp2
    go_ret2
    exact RetOwns2.mk (Owns.made _ _ (Nat.le_refl _)) ((Below.refl _ _).alloc (Nat.le_refl _) _)
  · clear hw
    go_enter Try.func33, Try.ntmps33
    go_wp2
    go_ret2
    exact RetOwns2.mk (Owns.made _ _ (Nat.le_refl _)) ((Below.refl _ _).alloc (Nat.le_refl _) _)
theorem list_asc (L : List Nat) (hp : L.Pairwise (· < ·)) (j : Nat) (h : j + 1 < (intsOf L).length) : (intsOf L).getD j 0 < (intsOf L).getD (j + 1) 0 := by
  rw [intsOf_length] at h
  have hlt := List.pairwise_iff_getElem.1 hp j (j + 1) (by omega) h (by omega)
  have e : ∀ i (hi : i < L.length), (intsOf L).getD i 0 = ((L[i] : Nat) : Int) := fun i hi => by simp [intsOf, List.getD, hi]
  rw [e j (by omega), e (j + 1) h]
  omega
theorem places_asc (n j : Nat) (h : j + 1 < (intsOf (places n)).length) : (intsOf (places n)).getD j 0 < (intsOf (places n)).getD (j + 1) 0 := list_asc _ (plN_pairwise 24 n) j h
theorem places_facts (n : Nat) (hn : n < 16777216) :
    ∃ zs : List Int, zs = intsOf (places n) ∧ zs.length ≤ 24 ∧ (∀ j, j + 1 < zs.length → zs.getD j 0 < zs.getD (j + 1) 0) ∧ ofL 0 zs = some n :=
  ⟨_, rfl, by rw [intsOf_length]; unfold places; rw [plN_length]; exact pcN_le 24 n, fun j h => places_asc n j h, ofL_places n hn⟩
theorem implPlaces_nat (n : Nat) (hw : IsW n) (W : World) : Calls Try.prog 34 #[.int .i64 n] W (RetOwns2 W.heap.size (intsOf (places n)) true W) := by
  have h := implPlaces_yes (n : Int) hw W
  rwa [Int.toNat_natCast] at h
theorem specPlaces_nat (n : Nat) (hw : IsW n) (W : World) : Calls Try.prog 33 #[.int .i64 n] W (RetOwns2 W.heap.size (intsOf (places n)) true W) := by
  have h := specPlaces_yes (n : Int) hw W
  rwa [Int.toNat_natCast] at h
theorem places_all (n : Nat) (hw : IsW n) (hn : n < 16777216) :
    ∃ zs : List Int, Hid (∀ W, Calls Try.prog 34 #[.int .i64 n] W (RetOwns2 W.heap.size zs true W)) ∧ Hid (∀ W, Calls Try.prog 33 #[.int .i64 n] W (RetOwns2 W.heap.size zs true W)) ∧
      Hid (zs.length ≤ 24) ∧ Hid (∀ j, j + 1 < zs.length → zs.getD j 0 < zs.getD (j + 1) 0) ∧ Hid (ofL 0 zs = some n) := by
  obtain ⟨zs, hz, h1, h2, h3⟩ := places_facts n hn
  refine ⟨zs, ?_, ?_, Lib.hid h1, Lib.hid h2, Lib.hid h3⟩
  · rw [hz]; exact Lib.hid (implPlaces_nat n hw)
  · rw [hz]; exact Lib.hid (specPlaces_nat n hw)
end Go.Proofs.Ytdcljbohoefpcaa
