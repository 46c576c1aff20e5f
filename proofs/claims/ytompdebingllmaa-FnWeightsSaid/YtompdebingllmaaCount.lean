/- Contracts of the counts of words by their weights, of both. No condition beyond those stated. -/
import Derived.Test.YtompdebingllmaaCodeOf
import Derived.Test.YtompdebingllmaaWords1
import Derived.Test.YtompdebingllmaaSlices
namespace Go.Proofs.Ytompdebingllmaa
open Go.RowKit Gol
/-- how many of the k messages from lo on have words of each weight -/
def cntL (lo : Nat) : Nat → List Int
  | 0 => List.replicate 25 0
  | k + 1 => (cntL lo k).set (pc (enc (lo + k))) ((cntL lo k).getD (pc (enc (lo + k))) 0 + 1)
theorem cntL_len (lo : Nat) : ∀ k, (cntL lo k).length = 25
  | 0 => by simp [cntL]
  | k + 1 => by rw [cntL, List.length_set]; exact cntL_len lo k
theorem set_getD (l : List Int) (i j : Nat) (x : Int) (hi : i < l.length) : (l.set i x).getD j 0 = if i = j then x else l.getD j 0 := by
  simp only [List.getD, List.getElem?_set]
  split
  · next h => subst h; simp
  · rfl
theorem cntL_le (lo : Nat) : ∀ k j, 0 ≤ (cntL lo k).getD j 0 ∧ (cntL lo k).getD j 0 ≤ k
  | 0, j => by
    have : (List.replicate 25 (0 : Int)).getD j 0 = 0 := by simp only [List.getD, List.getElem?_replicate]; split <;> rfl
    rw [cntL, this]; exact ⟨by omega, by omega⟩
  | k + 1, j => by
    have ih := cntL_le lo k j
    have ih2 := cntL_le lo k (pc (enc (lo + k)))
    have hp : pc (enc (lo + k)) < (cntL lo k).length := by rw [cntL_len]; have := pcN_le 24 (enc (lo + k)); unfold pc; omega
    rw [cntL, set_getD _ _ _ _ hp]
    split <;> omega
theorem cntL_step (lo k : Nat) : cntL lo (k + 1) = (cntL lo k).set (pc (enc (lo + k))) ((cntL lo k).getD (pc (enc (lo + k))) 0 + 1) := rfl
set_option maxRecDepth 100000 in
set_option maxHeartbeats 2000000 in
theorem implCount_yes (a b : Nat) (h : a ≤ b) (hb : b < 4096) (W : World) : Calls Try.prog 39 #[.int .i64 a, .int .i64 b] W (RetOwns2 W.heap.size (cntL a (b + 1 - a)) true W) := by
  obtain ⟨i0, hi, hz0, hz1, hz2⟩ := info_parts infoInt
  obtain ⟨K, hK⟩ : ∃ K, K = b + 1 - a := ⟨_, rfl⟩
  rw [← hK]
  have HK := Lib.hid hK
  have Hab := Lib.hid h
  have h0 : (0 : Int) ≤ a := by omega
  have h1 : (a : Int) ≤ b := by omega
  have h2 : ¬ (a : Int) < 0 := by omega
  have h3 : ¬ (b : Int) < (a : Int) := by omega
  have h4 : (b : Int) ≤ 4095 := by omega
  have h5 : ¬ (4096 : Int) ≤ (b : Int) := by omega
  have Hb := Lib.hid hb
  clear h hK hb
  go_enter Try.func39, Try.ntmps39
  go_wp2_with (first | (at_make; refine wpList_make_full _ rfl _ _ 25 rfl W.heap.size 3 i0 (.int .i64 0) 1 Try.underlying25 hi hz0 hz1 .i64 .i64 _ _ 25 (by rfl) (by rfl) rfl rfl (by rw [hz2]; omega) (by unfold maxLen; omega) (Nat.le_refl _) ?_; intro w1 hown1 hgr1) | go_in)
  have hbel1 : Below W.heap.size W w1 := (Below.refl _ _).grown hgr1 (Nat.le_refl _) (fun k hk => by cases hk)
  have Hown1 : Hid (Owns w1 W.heap.size (.slice (some ⟨W.heap.size, 0, none⟩) 25 25) (cntL a 0)) := Lib.hid (Owns.zeros hown1)
  clear hown1 hgr1 hi hz0 hz1 hz2
  go_loopw [7] (fun m wr => ∃ k q : Nat, k ≤ K ∧ q = a + k ∧ m = .int .i64 (q : Nat) ∧ Owns wr W.heap.size (.slice (some ⟨W.heap.size, 0, none⟩) 25 25) (cntL a k) ∧ Below W.heap.size W wr) (fun m _ => b + 1 - (intOf m).toNat)
  case atStart => exact ⟨0, a, Nat.zero_le _, rfl, rfl, Hown1.out, hbel1⟩
  case round =>
    obtain ⟨k, q, hk, hq, rfl, hown, hbel⟩ := hrel
    have Hq := Lib.hid hq
    have Hk := Lib.hid hk
    clear hq hk
    by_cases hlt : k < K
    · have hq4 : q < 4096 := by have := Hq.out; have := HK.out; have := Hb.out; omega
      have hqb : (q : Int) ≤ (b : Int) := by have := Hq.out; have := HK.out; omega
      have Hlt : Hid (k < K) := Lib.hid hlt
      have HW : Hid (IsW ((enc q : Nat) : Int)) := Lib.hid (IsW.mk _ (enc_ok q hq4).1)
      have Hs : Hid (cntL a (k + 1) = (cntL a k).set (pc (enc q)) ((cntL a k).getD (pc (enc q)) 0 + 1)) := Lib.hid (by rw [Hq.out]; exact cntL_step a k)
      have hp : pc (enc q) < 25 := by have := pcN_le 24 (enc q); unfold pc; omega
      obtain ⟨v0, v1⟩ := cntL_le a k (pc (enc q))
      have hkb : (k : Int) ≤ 4096 := by have := Hk.out; have := HK.out; have := Hb.out; omega
      obtain ⟨hc1, hc2⟩ := hown.at (pc (enc q)) (by rw [cntL_len]; exact hp)
      generalize (cntL a k).getD (pc (enc q)) 0 = v at *
      have HO : Hid (∀ W, Calls Try.prog 61 #[.int .i64 q] W (fun e W' => e = .returned (.int .i64 (enc q : Nat)) ∧ Below W.heap.size W W')) := Lib.hid (fun W => codeOf_any q hq4 W)
      generalize enc q = e at *
      obtain ⟨t, ht⟩ : ∃ t, pc e = t := ⟨_, rfl⟩
      have Ht := Lib.hid ht
      rw [ht] at hp hc1 hc2
      have Hbel := Lib.hid hbel
      have Hown := Lib.hid hown
      have hgl : W.heap.size < wr.heap.size := by
        rcases hown.shape with ⟨e, _⟩ | ⟨g', cap', cur, e, _, h, _⟩
        · injection e with e1; cases e1
        · injection e with e1; injection e1 with e1; injection e1 with e1; rw [e1]; exact h
      clear hlt hbel hown ht
      go_wp2_with (first | (go_at_call 61; refine (HO.out _).mono ?_; rintro e2 w2 ⟨rfl, hb2⟩; have hx1 := (hb2.cell (p := ⟨W.heap.size, t, none⟩) hgl).trans hc1; have hx2 := (hb2.frozen (p := ⟨W.heap.size, t, none⟩) hgl).trans hc2) | (go_at_call 54; refine (weight_any _ HW.out _).mono ?_; rintro e2 w' ⟨rfl, rfl⟩; simp only [Int.toNat_natCast, Ht.out]))
      obtain ⟨hs1, hs2⟩ := (Hown.out.kept hb2).set (cntL_len a k) t (v + 1)
      go_roundw
      case rel => exact ⟨k + 1, q + 1, Hlt.out, by have := Hq.out; omega, by go_num, by rw [Hs.out, Ht.out]; exact hs1, (Hbel.out.trans (hb2.mono Hbel.out.size)).grown hs2 (Nat.le_trans Hbel.out.size hb2.size) (fun k hk => by cases hk; exact Nat.le_refl _)⟩
      case measure => simp [intOf]; omega
    · have e : k = K := by have := Hk.out; omega
      have hqb : ¬ (q : Int) ≤ (b : Int) := by have := Hq.out; have := HK.out; have := Hab.out; omega
      subst e
      go_wp2
      go_ret2
      exact RetOwns2.mk hown hbel
set_option maxRecDepth 100000 in
set_option maxHeartbeats 2000000 in
theorem specCount_yes (a b : Nat) (h : a ≤ b) (hb : b < 4096) (W : World) : Calls Try.prog 38 #[.int .i64 a, .int .i64 b] W (RetOwns2 W.heap.size (cntL a (b + 1 - a)) true W) := by
  obtain ⟨i0, hi, hz0, hz1, hz2⟩ := info_parts infoInt
  obtain ⟨K, hK⟩ : ∃ K, K = b + 1 - a := ⟨_, rfl⟩
  rw [← hK]
  have HK := Lib.hid hK
  have Hab := Lib.hid h
  have h0 : (0 : Int) ≤ a := by omega
  have h1 : (a : Int) ≤ b := by omega
  have h2 : ¬ (a : Int) < 0 := by omega
  have h3 : ¬ (b : Int) < (a : Int) := by omega
  have h4 : (b : Int) ≤ 4095 := by omega
  have h5 : ¬ (4096 : Int) ≤ (b : Int) := by omega
  have Hb := Lib.hid hb
  clear h hK hb
  go_enter Try.func38, Try.ntmps38
  go_wp2_with (first | (at_make; refine wpList_make_full _ rfl _ _ 25 rfl W.heap.size 3 i0 (.int .i64 0) 1 Try.underlying25 hi hz0 hz1 .i64 .i64 _ _ 25 (by rfl) (by rfl) rfl rfl (by rw [hz2]; omega) (by unfold maxLen; omega) (Nat.le_refl _) ?_; intro w1 hown1 hgr1) | go_in)
  have hbel1 : Below W.heap.size W w1 := (Below.refl _ _).grown hgr1 (Nat.le_refl _) (fun k hk => by cases hk)
  have Hown1 : Hid (Owns w1 W.heap.size (.slice (some ⟨W.heap.size, 0, none⟩) 25 25) (cntL a 0)) := Lib.hid (Owns.zeros hown1)
  clear hown1 hgr1 hi hz0 hz1 hz2
  go_loopw [7] (fun m wr => ∃ k q : Nat, k ≤ K ∧ q = a + k ∧ m = .int .i64 (q : Nat) ∧ Owns wr W.heap.size (.slice (some ⟨W.heap.size, 0, none⟩) 25 25) (cntL a k) ∧ Below W.heap.size W wr) (fun m _ => b + 1 - (intOf m).toNat)
  case atStart => exact ⟨0, a, Nat.zero_le _, rfl, rfl, Hown1.out, hbel1⟩
  case round =>
    obtain ⟨k, q, hk, hq, rfl, hown, hbel⟩ := hrel
    have Hq := Lib.hid hq
    have Hk := Lib.hid hk
    clear hq hk
    by_cases hlt : k < K
    · have hq4 : q < 4096 := by have := Hq.out; have := HK.out; have := Hb.out; omega
      have hqb : (q : Int) ≤ (b : Int) := by have := Hq.out; have := HK.out; omega
      have Hlt : Hid (k < K) := Lib.hid hlt
      have HW : Hid (IsW ((enc q : Nat) : Int)) := Lib.hid (IsW.mk _ (enc_ok q hq4).1)
      have Hs : Hid (cntL a (k + 1) = (cntL a k).set (pc (enc q)) ((cntL a k).getD (pc (enc q)) 0 + 1)) := Lib.hid (by rw [Hq.out]; exact cntL_step a k)
      have hp : pc (enc q) < 25 := by have := pcN_le 24 (enc q); unfold pc; omega
      obtain ⟨v0, v1⟩ := cntL_le a k (pc (enc q))
      have hkb : (k : Int) ≤ 4096 := by have := Hk.out; have := HK.out; have := Hb.out; omega
      obtain ⟨hc1, hc2⟩ := hown.at (pc (enc q)) (by rw [cntL_len]; exact hp)
      generalize (cntL a k).getD (pc (enc q)) 0 = v at *
      have HO : Hid (∀ W, Calls Try.prog 59 #[.int .i64 q] W (fun e W' => e = .returned (.int .i64 (enc q : Nat)) ∧ Below W.heap.size W W')) := Lib.hid (fun W => l3Of_any q (by omega) (by omega) W)
      generalize enc q = e at *
      obtain ⟨t, ht⟩ : ∃ t, pc e = t := ⟨_, rfl⟩
      have Ht := Lib.hid ht
      rw [ht] at hp hc1 hc2
      have Hbel := Lib.hid hbel
      have Hown := Lib.hid hown
      have hgl : W.heap.size < wr.heap.size := by
        rcases hown.shape with ⟨e, _⟩ | ⟨g', cap', cur, e, _, h, _⟩
        · injection e with e1; cases e1
        · injection e with e1; injection e1 with e1; injection e1 with e1; rw [e1]; exact h
      clear hlt hbel hown ht
      go_wp2_with (first | (go_at_call 59; refine (HO.out _).mono ?_; rintro e2 w2 ⟨rfl, hb2⟩; have hx1 := (hb2.cell (p := ⟨W.heap.size, t, none⟩) hgl).trans hc1; have hx2 := (hb2.frozen (p := ⟨W.heap.size, t, none⟩) hgl).trans hc2) | (go_at_call 63; refine (l1Weight_any _ HW.out _).mono ?_; rintro e2 w' ⟨rfl, rfl⟩; simp only [Int.toNat_natCast, Ht.out]))
      obtain ⟨hs1, hs2⟩ := (Hown.out.kept hb2).set (cntL_len a k) t (v + 1)
      go_roundw
      case rel => exact ⟨k + 1, q + 1, Hlt.out, by have := Hq.out; omega, by go_num, by rw [Hs.out, Ht.out]; exact hs1, (Hbel.out.trans (hb2.mono Hbel.out.size)).grown hs2 (Nat.le_trans Hbel.out.size hb2.size) (fun k hk => by cases hk; exact Nat.le_refl _)⟩
      case measure => simp [intOf]; omega
    · have e : k = K := by have := Hk.out; omega
      have hqb : ¬ (q : Int) ≤ (b : Int) := by have := Hq.out; have := HK.out; have := Hab.out; omega
      subst e
      go_wp2
      go_ret2
      exact RetOwns2.mk hown hbel
set_option maxHeartbeats 1000000 in
theorem implCount_no (a b : Int) (h : ¬ (0 ≤ a ∧ a ≤ b ∧ b < 4096)) (W : World) : Calls Try.prog 39 #[.int .i64 a, .int .i64 b] W (RetOwns2 W.heap.size [] false W) := by
  obtain ⟨i0, hi, hz0, hz1, hz2⟩ := info_parts infoInt
  by_cases h0 : 0 ≤ a
  · by_cases h1 : a ≤ b
    · have h4 : ¬ b ≤ 4095 := fun hh => h ⟨h0, h1, by omega⟩
      have h5 : 4096 ≤ b := by omega
      have h2 : ¬ a < 0 := by omega
      have h3 : ¬ b < a := by omega
      clear h
      go_enter Try.func39, Try.ntmps39
      go_wp2
      go_ret2
      exact RetOwns2.mk (Owns.made _ _ (Nat.le_refl _)) ((Below.refl _ _).alloc (Nat.le_refl _) _)
    · have h3 : b < a := by omega
      have h2 : ¬ a < 0 := by omega
      have h6 : decide (a ≤ b) = false := decide_eq_false h1
      clear h
      go_enter Try.func39, Try.ntmps39
      go_wp2
      go_ret2
      exact RetOwns2.mk (Owns.made _ _ (Nat.le_refl _)) ((Below.refl _ _).alloc (Nat.le_refl _) _)
  · have h2 : a < 0 := by omega
    have h6 : decide (0 ≤ a) = false := decide_eq_false h0
    clear h
    go_enter Try.func39, Try.ntmps39
    go_wp2
    go_ret2
    exact RetOwns2.mk (Owns.made _ _ (Nat.le_refl _)) ((Below.refl _ _).alloc (Nat.le_refl _) _)
set_option maxHeartbeats 1000000 in
theorem specCount_no (a b : Int) (h : ¬ (0 ≤ a ∧ a ≤ b ∧ b < 4096)) (W : World) : Calls Try.prog 38 #[.int .i64 a, .int .i64 b] W (RetOwns2 W.heap.size [] false W) := by
  obtain ⟨i0, hi, hz0, hz1, hz2⟩ := info_parts infoInt
  by_cases h0 : 0 ≤ a
  · by_cases h1 : a ≤ b
    · have h4 : ¬ b ≤ 4095 := fun hh => h ⟨h0, h1, by omega⟩
      have h5 : 4096 ≤ b := by omega
      have h2 : ¬ a < 0 := by omega
      have h3 : ¬ b < a := by omega
      clear h
      go_enter Try.func38, Try.ntmps38
      go_wp2_with (first | (at_make; refine wpList_make_full _ rfl _ _ 25 rfl W.heap.size 3 i0 (.int .i64 0) 1 Try.underlying25 hi hz0 hz1 .i64 .i64 _ _ 25 (by rfl) (by rfl) rfl rfl (by rw [hz2]; omega) (by unfold maxLen; omega) (Nat.le_refl _) ?_; intro w1 hown1 hgr1) | go_in)
      go_ret2
      have hbel1 : Below W.heap.size W w1 := (Below.refl _ _).grown hgr1 (Nat.le_refl _) (fun k hk => by cases hk)
      exact RetOwns2.mk (Owns.made _ _ hbel1.size) (hbel1.alloc hbel1.size _)
    · have h3 : b < a := by omega
      have h2 : ¬ a < 0 := by omega
      have h6 : decide (a ≤ b) = false := decide_eq_false h1
      clear h
      go_enter Try.func38, Try.ntmps38
      go_wp2_with (first | (at_make; refine wpList_make_full _ rfl _ _ 25 rfl W.heap.size 3 i0 (.int .i64 0) 1 Try.underlying25 hi hz0 hz1 .i64 .i64 _ _ 25 (by rfl) (by rfl) rfl rfl (by rw [hz2]; omega) (by unfold maxLen; omega) (Nat.le_refl _) ?_; intro w1 hown1 hgr1) | go_in)
      go_ret2
      have hbel1 : Below W.heap.size W w1 := (Below.refl _ _).grown hgr1 (Nat.le_refl _) (fun k hk => by cases hk)
      exact RetOwns2.mk (Owns.made _ _ hbel1.size) (hbel1.alloc hbel1.size _)
  · have h2 : a < 0 := by omega
    have h6 : decide (0 ≤ a) = false := decide_eq_false h0
    clear h
    go_enter Try.func38, Try.ntmps38
    go_wp2_with (first | (at_make; refine wpList_make_full _ rfl _ _ 25 rfl W.heap.size 3 i0 (.int .i64 0) 1 Try.underlying25 hi hz0 hz1 .i64 .i64 _ _ 25 (by rfl) (by rfl) rfl rfl (by rw [hz2]; omega) (by unfold maxLen; omega) (Nat.le_refl _) ?_; intro w1 hown1 hgr1) | go_in)
    go_ret2
    have hbel1 : Below W.heap.size W w1 := (Below.refl _ _).grown hgr1 (Nat.le_refl _) (fun k hk => by cases hk)
    exact RetOwns2.mk (Owns.made _ _ hbel1.size) (hbel1.alloc hbel1.size _)
theorem count_all (a b : Int) : ∃ zs : List Int, ∃ ok : Bool, Hid (∀ W, Calls Try.prog 38 #[.int .i64 a, .int .i64 b] W (RetOwns2 W.heap.size zs ok W)) ∧
    Hid (∀ W, Calls Try.prog 39 #[.int .i64 a, .int .i64 b] W (RetOwns2 W.heap.size zs ok W)) ∧ Hid (zs.length ≤ 1000000000000) := by
  by_cases h : 0 ≤ a ∧ a ≤ b ∧ b < 4096
  · obtain ⟨n, rfl⟩ := Int.eq_ofNat_of_zero_le h.1
    obtain ⟨m, rfl⟩ := Int.eq_ofNat_of_zero_le (show 0 ≤ b by omega)
    have h1 : n ≤ m := by omega
    have h2 : m < 4096 := by omega
    exact ⟨_, true, Lib.hid (fun W => specCount_yes n m h1 h2 W), Lib.hid (fun W => implCount_yes n m h1 h2 W), Lib.hid (by rw [cntL_len]; decide)⟩
  · exact ⟨[], false, Lib.hid (fun W => specCount_no a b h W), Lib.hid (fun W => implCount_no a b h W), Lib.hid (by simp)⟩
end Go.Proofs.Ytompdebingllmaa
