/- Contracts of the words of messages, of both. No condition beyond those stated. -/
import Derived.Test.YtompdebingllmaaScore
import Derived.Test.YtompdebingllmaaDraw1
import Derived.Test.YtompdebingllmaaHexIn
import Derived.Test.YtompdebingllmaaSlices
namespace Go.Proofs.Ytompdebingllmaa
open Go.RowKit Gol
theorem pc_par : ∀ k, k < 16 → pc k % 2 = par k := by decide +kernel
theorem fill_only {s p f k : Nat} (hk : k < 16) (h1 : k % 2 = f) (h2 : pc k % 2 = p) (h3 : sc k = s) : fill s p f = k := by
  rw [pc_par k hk] at h2
  have h0 : bitN k 0 = k % 2 := by simp [bitN]
  rw [← h1, ← h2, ← h3, ← h0]
  exact (fill_nib k hk).1
theorem fill_meets {s p f : Nat} (hs : s < 4) (hp : p < 2) (hf : f < 2) : fill s p f < 16 ∧ fill s p f % 2 = f ∧ pc (fill s p f) % 2 = p ∧ sc (fill s p f) = s := by
  obtain ⟨h1, h2, h3, h4⟩ := fill_of s hs p hp f hf
  have h0 : bitN (fill s p f) 0 = fill s p f % 2 := by simp [bitN]
  exact ⟨h1, by rw [← h0]; exact h4, by rw [pc_par _ h1]; exact h3, h2⟩
set_option maxHeartbeats 1000000 in
theorem rowsWith_any (s p f : Nat) (hs : s < 4) (hp : p < 2) (hf : f < 2) (W : World) :
    Calls Try.prog 78 #[.int .i64 s, .int .i64 p, .int .i64 f] W fun e W' => e = .returned (.int .i64 (fill s p f : Nat)) ∧ W = W' := by
  have HM := Lib.hid (fill_meets hs hp hf)
  have HO : Hid (∀ k, k < 16 → k % 2 = f → pc k % 2 = p → sc k = s → fill s p f = k) := Lib.hid (fun k => fill_only)
  clear hs hp hf
  generalize fill s p f = F at *
  go_enter Try.func78, Try.ntmps78
  go_wp2
  go_loop [8] (fun i => ∃ k : Nat, k ≤ F ∧ i = .int .i64 k) (fun i => 16 - (intOf i).toNat)
  case atStart => exact ⟨0, by omega, rfl⟩
  case round =>
    obtain ⟨k, hk, rfl⟩ := hrel
    have hlt : k < 16 := by have := HM.out.1; omega
    have hW : IsW (k : Nat) := IsW.mk _ (by omega)
    have hb : bits .and .i64 (k : Int) 1 = ((k % 2 : Nat) : Int) := by
      have := i64_and k 1 (by omega) (by decide)
      rwa [Nat.and_one_is_mod] at this
    have Hno := Lib.hid (HO.out k hlt)
    have Hyes : Hid (k = F → k % 2 = f ∧ pc k % 2 = p ∧ sc k = s) := Lib.hid (fun e => by rw [e]; exact HM.out.2)
    have hs16 : k < 16 := hlt
    by_cases c1 : k % 2 = f
    · have t1 : ((k % 2 : Nat) : Int) = (f : Int) := by omega
      rw [t1] at hb
      by_cases c2 : pc k % 2 = p
      · have t2 : ((pc k : Nat) : Int) % 2 = (p : Int) := by omega
        by_cases c3 : sc k = s
        · have t3 : ((sc k : Nat) : Int) = (s : Int) := by omega
          have Hend : Hid (F = k) := Lib.hid (Hno.out c1 c2 c3)
          clear c1 c2 c3 Hno Hyes
          clear t1
          go_wp2_with (first | (go_at_call 54; refine (weight_any _ hW _).mono ?_; rintro e w' ⟨rfl, rfl⟩; simp only [Int.toNat_natCast]) | (go_at_call 74; refine (score_any _ hs16 _).mono ?_; rintro e w' ⟨rfl, rfl⟩))
          go_ret
          exact ⟨ret_int (by rw [Hend.out]), rfl⟩
        · have t3 : ¬ ((sc k : Nat) : Int) = (s : Int) := by omega
          have Hlt : Hid (k + 1 ≤ F) := Lib.hid (by have : k ≠ F := fun e => c3 (Hyes.out e).2.2; omega)
          clear c1 c2 c3 Hno Hyes t1
          go_wp2_with (first | (go_at_call 54; refine (weight_any _ hW _).mono ?_; rintro e w' ⟨rfl, rfl⟩; simp only [Int.toNat_natCast]) | (go_at_call 74; refine (score_any _ hs16 _).mono ?_; rintro e w' ⟨rfl, rfl⟩))
          go_round
          case rel => exact ⟨k + 1, Hlt.out, by go_num⟩
          case measure => simp [intOf]; omega
      · have t2 : ¬ ((pc k : Nat) : Int) % 2 = (p : Int) := by omega
        have Hlt : Hid (k + 1 ≤ F) := Lib.hid (by have : k ≠ F := fun e => c2 (Hyes.out e).2.1; omega)
        clear c1 c2 Hno Hyes t1
        go_wp2_with (first | (go_at_call 54; refine (weight_any _ hW _).mono ?_; rintro e w' ⟨rfl, rfl⟩; simp only [Int.toNat_natCast]) | (go_at_call 74; refine (score_any _ hs16 _).mono ?_; rintro e w' ⟨rfl, rfl⟩))
        go_round
        case rel => exact ⟨k + 1, Hlt.out, by go_num⟩
        case measure => simp [intOf]; omega
    · have t1 : ¬ ((k % 2 : Nat) : Int) = (f : Int) := by omega
      have Hlt : Hid (k + 1 ≤ F) := Lib.hid (by have : k ≠ F := fun e => c1 (Hyes.out e).1; omega)
      clear c1 Hno Hyes
      generalize k % 2 = g1 at *
      go_wp2_with (first | (go_at_call 54; refine (weight_any _ hW _).mono ?_; rintro e w' ⟨rfl, rfl⟩; simp only [Int.toNat_natCast]) | (go_at_call 74; refine (score_any _ hs16 _).mono ?_; rintro e w' ⟨rfl, rfl⟩))
      go_round
      case rel => exact ⟨k + 1, Hlt.out, by go_num⟩
      case measure => simp [intOf]; omega
theorem quiet_rowsWith (s p f : Nat) (hs : s < 4) (hp : p < 2) (hf : f < 2) (W : World) (n : Nat) :
    Calls Try.prog 78 #[.int .i64 s, .int .i64 p, .int .i64 f] (W.drewN n) fun e w' => e = .returned (.int .i64 (fill s p f : Nat)) ∧ ∃ m, w' = W.drewN m :=
  Calls.quiet_of_same ((rowsWith_any s p f hs hp hf _).mono fun _ _ h => ⟨h.1, h.2.symm⟩)
/-- the bits of the row 0, but for the first column -/
def bl (m : Nat) : Nat → List Nat
  | 0 => []
  | k + 1 => bl m k ++ [bitN m (7 + k)]
theorem bl_len (m : Nat) : ∀ k, (bl m k).length = k
  | 0 => rfl
  | k + 1 => by rw [bl, List.length_append, bl_len m k]; rfl
/-- the bits of the row 0 behind k rounds -/
def firstL (m k : Nat) : List Nat := (topS m k ^^^ (m / 64 % 2)) :: bl m k
theorem firstL_len (m k : Nat) : (firstL m k).length = k + 1 := by rw [firstL, List.length_cons, bl_len]
theorem firstL_step (m k : Nat) : ((ints (firstL m k) ++ [((bitN m (7 + k) : Nat) : Int)]).set 0 (((topS m k ^^^ (m / 64 % 2)) ^^^ bitN m (7 + k) : Nat) : Int)) = ints (firstL m (k + 1)) := by
  have e : topS m k ^^^ (m / 64 % 2) ^^^ bitN m (7 + k) = topS m (k + 1) ^^^ (m / 64 % 2) := by
    show _ = topS m k ^^^ bitN m (7 + k) ^^^ (m / 64 % 2)
    rw [Nat.xor_assoc, Nat.xor_assoc, Nat.xor_comm (m / 64 % 2)]
  rw [e]
  simp [firstL, ints, bl]
theorem firstL_lt (m k : Nat) : topS m k ^^^ (m / 64 % 2) < 2 := Nat.xor_lt_two_pow (n := 1) (topS_lt m k) (Nat.mod_lt _ (by decide))
/-- the word of a message, column by column from the first -/
def encC (m : Nat) : Nat → Nat
  | 0 => 0
  | k + 1 => encC m k + fill ((hexRow (m % 4) (m / 4 % 4) (m / 16 % 4)).getD k 0) (m / 64 % 2) ((firstL m 5).getD k 0) * 2 ^ (4 * k)
theorem firstL_at (m k : Nat) (hk : k < 6) : (firstL m 5).getD k 0 < 2 := by
  match k, hk with
  | 0, _ => exact firstL_lt m 5
  | 1, _ => exact bitN_lt m 7
  | 2, _ => exact bitN_lt m 8
  | 3, _ => exact bitN_lt m 9
  | 4, _ => exact bitN_lt m 10
  | 5, _ => exact bitN_lt m 11
theorem encC_six (m : Nat) : encC m 6 = enc m := by
  rw [enc_eq]
  have e1 : encS m 5 = 0 + fill ((hexRow (m % 4) (m / 4 % 4) (m / 16 % 4)).getD 1 0) (m / 64 % 2) (bitN m 7) * 2 ^ 4 + fill ((hexRow (m % 4) (m / 4 % 4) (m / 16 % 4)).getD 2 0) (m / 64 % 2) (bitN m 8) * 2 ^ 8 + fill ((hexRow (m % 4) (m / 4 % 4) (m / 16 % 4)).getD 3 0) (m / 64 % 2) (bitN m 9) * 2 ^ 12 +
    fill ((hexRow (m % 4) (m / 4 % 4) (m / 16 % 4)).getD 4 0) (m / 64 % 2) (bitN m 10) * 2 ^ 16 + fill ((hexRow (m % 4) (m / 4 % 4) (m / 16 % 4)).getD 5 0) (m / 64 % 2) (bitN m 11) * 2 ^ 20 := rfl
  have e2 : encC m 6 = 0 + fill (m % 4) (m / 64 % 2) (topS m 5 ^^^ (m / 64 % 2)) * 2 ^ 0 + fill ((hexRow (m % 4) (m / 4 % 4) (m / 16 % 4)).getD 1 0) (m / 64 % 2) (bitN m 7) * 2 ^ 4 + fill ((hexRow (m % 4) (m / 4 % 4) (m / 16 % 4)).getD 2 0) (m / 64 % 2) (bitN m 8) * 2 ^ 8 + fill ((hexRow (m % 4) (m / 4 % 4) (m / 16 % 4)).getD 3 0) (m / 64 % 2) (bitN m 9) * 2 ^ 12 +
    fill ((hexRow (m % 4) (m / 4 % 4) (m / 16 % 4)).getD 4 0) (m / 64 % 2) (bitN m 10) * 2 ^ 16 + fill ((hexRow (m % 4) (m / 4 % 4) (m / 16 % 4)).getD 5 0) (m / 64 % 2) (bitN m 11) * 2 ^ 20 := rfl
  rw [e1, e2]
  omega
theorem row_at {l : List Nat} (h : Row l) (k : Nat) (hk : k < 6) : l.getD k 0 < 4 := row_getD h k hk
theorem encC_lt (m : Nat) : ∀ k, k ≤ 6 → encC m k < 2 ^ (4 * k)
  | 0, _ => by show 0 < 2 ^ 0; decide
  | k + 1, h => by
    have ih := encC_lt m k (by omega)
    have hr := hexRow_row (show m % 4 < 4 by omega) (show m / 4 % 4 < 4 by omega) (show m / 16 % 4 < 4 by omega)
    have hf := (fill_of _ (row_at hr k (by omega)) (m / 64 % 2) (Nat.mod_lt _ (by decide)) _ (firstL_at m k (by omega))).1
    have p : 2 ^ (4 * (k + 1)) = 16 * 2 ^ (4 * k) := by rw [show 4 * (k + 1) = 4 + 4 * k by omega, Nat.pow_add]
    have q : fill ((hexRow (m % 4) (m / 4 % 4) (m / 16 % 4)).getD k 0) (m / 64 % 2) ((firstL m 5).getD k 0) * 2 ^ (4 * k) ≤ 15 * 2 ^ (4 * k) := Nat.mul_le_mul_right _ (by omega)
    unfold encC
    omega
theorem encC_or (m k : Nat) (hk : k < 6) : encC m k ||| fill ((hexRow (m % 4) (m / 4 % 4) (m / 16 % 4)).getD k 0) (m / 64 % 2) ((firstL m 5).getD k 0) * 2 ^ (4 * k) = encC m (k + 1) := by
  have h := Nat.two_pow_add_eq_or_of_lt (encC_lt m k (by omega)) (fill ((hexRow (m % 4) (m / 4 % 4) (m / 16 % 4)).getD k 0) (m / 64 % 2) ((firstL m 5).getD k 0))
  rw [Nat.mul_comm, Nat.add_comm, Nat.or_comm] at h
  exact h.symm
theorem Owns.lit1 (w : World) (B : Nat) (x : Int) (h : B ≤ w.heap.size) : Owns (w.alloc (.cells #[.int .i64 x] 3)) B (.slice (some ⟨w.heap.size, 0, none⟩) 1 1) [x] :=
  World.ownsRow_lit w #[.int .i64 x] 1 h (by decide) rfl
theorem and3' (x : Nat) : x &&& 3 = x % 4 := Nat.and_two_pow_sub_one_eq_mod x 2
theorem and_three (x : Nat) (h : x < 9223372036854775808) : bits .and .i64 (x : Int) 3 = ((x % 4 : Nat) : Int) := by
  have := i64_and x 3 h (by decide)
  rwa [and3'] at this
theorem head_at (t : Nat) (l : List Nat) (b : Int) : (ints (t :: l) ++ [b]).getD 0 0 = (t : Int) := rfl
set_option maxHeartbeats 2000000 in
theorem codeOf_any (m : Nat) (hm : m < 4096) (W : World) :
    Calls Try.prog 61 #[.int .i64 m] W (EncIs W.heap.size m W) := by
  have Hm := Lib.hid hm
  have a1 : bits .and .i64 (m : Int) 3 = (m : Int) % 4 := (and_three m (by omega))
  have a2 : bits .and .i64 ((m : Int) / 4) 3 = (m : Int) / 4 % 4 := (and_three (m / 4) (by omega))
  have a3 : bits .and .i64 ((m : Int) / 16) 3 = (m : Int) / 16 % 4 := (and_three (m / 16) (by omega))
  have hrow := Lib.hid (hexRow_row (show m % 4 < 4 by omega) (show m / 4 % 4 < 4 by omega) (show m / 16 % 4 < 4 by omega))
  have et : ((m : Int) % 4).toNat = m % 4 := by omega
  have et2 : ((m : Int) / 4 % 4).toNat = m / 4 % 4 := by omega
  have et3 : ((m : Int) / 16 % 4).toNat = m / 16 % 4 := by omega
  obtain ⟨p, hp, hp2, hp3⟩ : ∃ p : Nat, bits .and .i64 ((m : Int) / 64) 1 = (p : Int) ∧ Hid (p = m / 64 % 2) ∧ p < 2 := ⟨m / 64 % 2, (shr_bit m 6 (by omega)), Lib.hid rfl, by omega⟩
  have H6 := Lib.hid (encC_six m)
  go_enter Try.func61, Try.ntmps61
  go_wp2_with (go_at_call 69; refine (hexOf_any _ _ _ (by omega) (by omega) (by omega) (by omega) (by omega) (by omega) _).mono ?_; rintro e w1 ⟨a, cap, rfl, hown, hbel⟩)
  simp only [et, et2, et3] at *
  have hlen : (ints (hexRow (m % 4) (m / 4 % 4) (m / 16 % 4))).length = 6 := by rw [ints_length]; exact hrow.out.1
  rw [hlen]
  rw [hlen] at hown
  obtain ⟨g, rfl, hB, hg, hc⟩ := hown.head (by rw [hlen]; decide)
  rw [hlen] at hc
  have Hc := Lib.hid hc
  clear hlen hc hown et et2 et3 a1 a2 a3 hm
  have Hb1 := Lib.hid hbel
  clear hbel
  go_loopw [5, 6] (fun v c wr => ∃ k : Nat, k ≤ 5 ∧ c = .int .i64 ((k + 1 : Nat) : Int) ∧ Owns wr w1.heap.size v (ints (firstL m k)) ∧ Below w1.heap.size w1 wr) (fun _ c _ => 7 - (intOf c).toNat)
  case atStart => exact ⟨0, by omega, rfl, by rw [hp2.out]; simpa [firstL, topS, bl, ints] using Owns.lit1 w1 w1.heap.size (m / 64 % 2 : Nat) (Nat.le_refl _), (Below.refl _ _).alloc (Nat.le_refl _) _⟩
  case round =>
    obtain ⟨k, hk, rfl, hv, hbk⟩ := hrel
    by_cases hlt : k < 5
    · have hb := bitN_lt m (7 + k)
      have eb : bitN m (6 + (k + 1)) = bitN m (7 + k) := by rw [show 6 + (k + 1) = 7 + k by omega]
      have hsh := (shr_bit m (6 + (k + 1)) (by have := Hm.out; omega)).trans (congrArg (fun x : Nat => (x : Int)) eb)
      clear eb
      have Hs := Lib.hid (firstL_step m k)
      have Hl := Lib.hid (firstL_len m k)
      have htl := firstL_lt m k
      have Hf : Hid (firstL m k = (topS m k ^^^ (m / 64 % 2)) :: bl m k) := Lib.hid rfl
      have hx := i64_xor (topS m k ^^^ (m / 64 % 2)) (bitN m (7 + k)) (by omega) (by omega)
      generalize topS m k ^^^ (m / 64 % 2) = t at *
      generalize bitN m (7 + k) = b at *
      generalize firstL m k = L at *
      have hlen : Hid ((ints L).length ≤ 1000000) := Lib.hid (by rw [ints_length, Hl.out]; omega)
      have hlen2 : Hid ((ints L ++ [(b : Int)]).length = k + 2) := Lib.hid (by rw [List.length_append, ints_length, Hl.out]; rfl)
      have Hat : Hid ((ints L ++ [(b : Int)]).getD 0 0 = (t : Int)) := Lib.hid (by rw [Hf.out]; exact head_at t _ _)
      clear Hf Hl
      go_wp2_with (first | (at_builtin; refine wpList_append_int rfl _ _ rfl w1 w1.heap.size _ _ (b : Int) (by rfl) (by rfl) hv hbk (Nat.le_refl _) hlen.out ?_; intro v1 w2 hown1 hbel1; obtain ⟨a1, cp1, rfl⟩ := hown1.form; obtain ⟨g1, rfl, hg1, hgl1, hcs⟩ := hown1.head (by rw [hlen2.out]; omega); clear hcs; obtain ⟨hc0, hf0⟩ := hown1.at 0 (by rw [hlen2.out]; omega); obtain ⟨hs1, hs2⟩ := hown1.set rfl 0 ((t ^^^ b : Nat) : Int); rw [Hat.out] at hc0; rw [Hs.out] at hs1; rw [hlen2.out] at hs1 ⊢; have Hs1 := Lib.hid hs1; have Hs2 := Lib.hid hs2; have Hown1 := Lib.hid hown1; clear hs1 hs2 hown1) | go_in)
      go_roundw
      case rel => exact ⟨k + 1, by omega, by go_num, Hs1.out, hbel1.grown Hs2.out hbel1.size (fun k hk => by cases hk; exact hg1)⟩
      case measure => simp [intOf]; omega
    · have e : k = 5 := by omega
      subst e
      have hl6 : (ints (firstL m 5)).length = 6 := by rw [ints_length, firstL_len]
      obtain ⟨a2, cp2, rfl⟩ := hv.form
      obtain ⟨g2, rfl, hg2, hgl2, hcs⟩ := hv.head (by rw [hl6]; decide)
      rw [hl6] at hcs ⊢
      have Hc2 : Hid (∀ j, j < 6 → wr.cell? ⟨g2, j, none⟩ = some (.int .i64 ((firstL m 5).getD j 0 : Nat))) := Lib.hid (fun j hj => by rw [hcs j hj, ints_at])
      have Hc1 : Hid (∀ j, j < 6 → wr.cell? ⟨g, j, none⟩ = some (.int .i64 ((hexRow (m % 4) (m / 4 % 4) (m / 16 % 4)).getD j 0 : Nat))) := Lib.hid (fun j hj => by rw [← ints_at]; exact (hbk.cell (p := ⟨g, j, none⟩) hg).trans (Hc.out j hj))
      have hgr : g < wr.heap.size := Nat.lt_of_lt_of_le hg hbk.size
      have Hbk := Lib.hid hbk
      clear hcs hv hbk hl6 Hc hg
      go_wp2
      go_loopw [8, 43] (fun s i w3 => ∃ k : Nat, k ≤ 6 ∧ i = .int .i64 k ∧ s = .int .i64 (encC m k : Nat) ∧ Below wr.heap.size wr w3) (fun _ i _ => 6 - (intOf i).toNat)
      case atStart => exact ⟨0, by omega, rfl, rfl, Below.refl _ _⟩
      case round =>
        obtain ⟨k, hk, rfl, rfl, hb3⟩ := hrel
        by_cases hlt2 : k < 6
        · have x1 := (hb3.cell (p := ⟨g, k, none⟩) hgr).trans (Hc1.out k hlt2)
          have x2 := (hb3.cell (p := ⟨g2, k, none⟩) hgl2).trans (Hc2.out k hlt2)
          have d1 := row_at hrow.out k hlt2
          have d2 := firstL_at m k hlt2
          have HO : Hid (encC m k ||| fill ((hexRow (m % 4) (m / 4 % 4) (m / 16 % 4)).getD k 0) p ((firstL m 5).getD k 0) * 2 ^ (4 * k) = encC m (k + 1)) := Lib.hid (by rw [hp2.out]; exact encC_or m k hlt2)
          have HL : Hid (encC m (k + 1) < 16777216) := Lib.hid (by
            have h1 := encC_lt m (k + 1) (by omega)
            have h2 : 2 ^ (4 * (k + 1)) ≤ 2 ^ 24 := Nat.pow_le_pow_right (by decide) (by omega)
            exact Nat.lt_of_lt_of_le h1 h2)
          generalize (hexRow (m % 4) (m / 4 % 4) (m / 16 % 4)).getD k 0 = d at *
          generalize (firstL m 5).getD k 0 = f at *
          have hq16 := (fill_of d d1 p hp3 f d2).1
          obtain ⟨q, hq⟩ : ∃ q : Nat, q = fill d p f * 2 ^ (4 * k) := ⟨_, rfl⟩
          rw [← hq] at HO
          have hq2 : q ≤ encC m (k + 1) := by rw [← HO.out]; exact Nat.right_le_or
          have hs2 : encC m k ≤ encC m (k + 1) := by rw [← HO.out]; exact Nat.left_le_or
          have hql : q < 16777216 := Nat.lt_of_le_of_lt hq2 HL.out
          have hsl : encC m k < 16777216 := Nat.lt_of_le_of_lt hs2 HL.out
          have hqw := wrap_mul (fill d p f) k q hq hql
          have hqv : wrap64 ((fill d p f : Nat) * 2 ^ (4 * k)) = (q : Int) := (IntWalk.i64_left _).symm.trans hqw
          have hx := i64_or (encC m k) q (Nat.lt_trans hsl (by decide)) (Nat.lt_trans hql (by decide))
          rw [HO.out] at hx
          clear hq hq2 hs2 hql hsl hq16 HO
          obtain ⟨s', hs'⟩ : ∃ s', encC m (k + 1) = s' := ⟨_, rfl⟩
          have HS' := Lib.hid hs'
          rw [hs'] at hx HL
          clear hs'
          generalize encC m k = s at *
          go_wp2
          go_quiet (first | (go_at_call 78; exact quiet_rowsWith _ _ _ d1 hp3 d2 _ _))
          go_wp2
          go_roundw
          case rel => exact ⟨k + 1, by omega, by go_num, by rw [HS'.out], below_drewN hb3 _⟩
          case measure => simp [intOf]; omega
        · have e : k = 6 := by omega
          subst e
          rw [H6.out]
          go_wp2
          go_ret
          exact ⟨rfl, Hb1.out.trans ((Hbk.out.trans (hb3.mono Hbk.out.size)).mono Hb1.out.size)⟩
/-- what CodeOf hands back -/
def msgB (m : Int) : Bool := decide (0 ≤ m ∧ m < 4096)
def encZ (m : Int) : Int := if msgB m then (enc m.toNat : Nat) else 0
def IntIs (x : Int) (ok : Bool) (W : World) (e : Ending) (W' : World) : Prop := e = .returned (.tuple #[.int .i64 x, .bool ok]) ∧ Below W.heap.size W W'
theorem encZ_nat (n : Nat) (h : n < 4096) : encZ n = (enc n : Nat) ∧ msgB n = true := by
  have : msgB n = true := by simp [msgB]; omega
  simp [encZ, this]
theorem implCodeOf_any (m : Int) (W : World) : Calls Try.prog 33 #[.int .i64 m] W (IntIs (encZ m) (msgB m) W) := by
  by_cases hm : 0 ≤ m ∧ m < 4096
  · obtain ⟨h0, h1⟩ := hm
    obtain ⟨n, rfl⟩ := Int.eq_ofNat_of_zero_le h0
    have hn : n < 4096 := by omega
    rw [(encZ_nat n hn).1, (encZ_nat n hn).2]
    have h2 : (n : Int) ≤ 4095 := by omega
    go_enter Try.func33, Try.ntmps33
    go_wp2_with (first | (go_at_call 61; refine (codeOf_any n hn _).mono ?_; rintro e w1 ⟨rfl, hbel⟩; simp only [Int.toNat_natCast]) | go_in)
    go_ret2
    exact ⟨rfl, hbel⟩
  · have hb : msgB m = false := by simpa [msgB] using hm
    have hz : encZ m = 0 := by simp [encZ, hb]
    rw [hz, hb]
    by_cases h0 : 0 ≤ m
    · have h1 : ¬ m ≤ 4095 := fun h => hm ⟨h0, by omega⟩
      have h2 : decide (m ≤ 4095) = false := decide_eq_false h1
      clear hm hz hb
      go_enter Try.func33, Try.ntmps33
      go_wp2
      go_ret2
      exact ⟨rfl, Below.refl _ _⟩
    · have h2 : decide (0 ≤ m) = false := decide_eq_false h0
      clear hm hz hb
      go_enter Try.func33, Try.ntmps33
      go_wp2
      go_ret2
      exact ⟨rfl, Below.refl _ _⟩
theorem specCodeOf_any (m : Int) (W : World) : Calls Try.prog 32 #[.int .i64 m] W (IntIs (encZ m) (msgB m) W) := by
  by_cases hm : 0 ≤ m ∧ m < 4096
  · obtain ⟨h0, h1⟩ := hm
    obtain ⟨n, rfl⟩ := Int.eq_ofNat_of_zero_le h0
    have hn : n < 4096 := by omega
    rw [(encZ_nat n hn).1, (encZ_nat n hn).2]
    have h2 : (n : Int) ≤ 4095 := by omega
    go_enter Try.func32, Try.ntmps32
    go_wp2_with (first | (go_at_call 59; refine (l3Of_any n h0 (by omega) _).mono ?_; rintro e w1 ⟨rfl, hbel⟩; simp only [Int.toNat_natCast]) | go_in)
    go_ret2
    exact ⟨rfl, hbel⟩
  · have hb : msgB m = false := by simpa [msgB] using hm
    have hz : encZ m = 0 := by simp [encZ, hb]
    rw [hz, hb]
    by_cases h0 : 0 ≤ m
    · have h1 : ¬ m ≤ 4095 := fun h => hm ⟨h0, by omega⟩
      have h2 : decide (m ≤ 4095) = false := decide_eq_false h1
      clear hm hz hb
      go_enter Try.func32, Try.ntmps32
      go_wp2
      go_ret2
      exact ⟨rfl, Below.refl _ _⟩
    · have h2 : decide (0 ≤ m) = false := decide_eq_false h0
      clear hm hz hb
      go_enter Try.func32, Try.ntmps32
      go_wp2
      go_ret2
      exact ⟨rfl, Below.refl _ _⟩
end Go.Proofs.Ytompdebingllmaa
