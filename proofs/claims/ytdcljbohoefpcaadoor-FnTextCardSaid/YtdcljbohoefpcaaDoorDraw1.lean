/- The contract of the reference's word of a message. No condition beyond those stated. -/
import Derived.Test.YtdcljbohoefpcaaDoorHexa
import Derived.Test.YtdcljbohoefpcaaDoorFill
namespace Go.Proofs.YtdcljbohoefpcaaDoor
open Go.RowKit Gol
theorem wrap_sum (s q : Nat) (h : s + q < 16777216) : IntKind.i64.wrap ((s : Int) + (q : Int)) = ((s + q : Nat) : Int) := by
  rw [← Int.natCast_add]; exact i64_nat _ (by omega)
theorem wrap_mul (f k q : Nat) (h : q = f * 2 ^ (4 * k)) (hq : q < 16777216) : IntKind.i64.wrap ((f : Int) * 2 ^ (4 * k)) = (q : Int) := by
  have e : (f : Int) * 2 ^ (4 * k) = (q : Int) := by rw [h]; simp
  rw [e]; exact i64_nat _ (by omega)
theorem ints_at (l : List Nat) (j : Nat) : (ints l).getD j 0 = ((l.getD j 0 : Nat) : Int) := by
  unfold ints
  simp only [List.getD, List.getElem?_map]
  cases l[j]? <;> rfl
def EncIs (B : Nat) (m : Int) (W : World) (e : Ending) (W' : World) : Prop := e = .returned (.int .i64 (enc m.toNat)) ∧ Below B W W'
set_option maxHeartbeats 1000000 in
theorem l3Of_any (m : Int) (m0 : 0 ≤ m) (m1 : m < 4096) (W : World) :
    Calls Tryd.prog 31 #[.int .i64 m] W (EncIs W.heap.size m W) := by
  obtain ⟨n, rfl⟩ := Int.eq_ofNat_of_zero_le m0
  have hn : n < 4096 := by omega
  have hrow := Lib.hid (hexRow_row (show n % 4 < 4 by omega) (show n / 4 % 4 < 4 by omega) (show n / 16 % 4 < 4 by omega))
  have HE := Lib.hid (enc_eq n)
  have et : ((n : Int) % 4).toNat = n % 4 := by omega
  have et2 : ((n : Int) / 4 % 4).toNat = n / 4 % 4 := by omega
  have et3 : ((n : Int) / 16 % 4).toNat = n / 16 % 4 := by omega
  obtain ⟨p, hp, hp2, hp3⟩ : ∃ p : Nat, (n : Int) / 64 % 2 = (p : Int) ∧ Hid (p = n / 64 % 2) ∧ p < 2 := ⟨n / 64 % 2, by omega, Lib.hid rfl, by omega⟩
  go_enter Tryd.func31, Tryd.ntmps31
  go_wp2_with (go_at_call 38; refine (l2Of_any _ _ _ (by omega) (by omega) (by omega) (by omega) (by omega) (by omega) _).mono ?_; rintro e w1 ⟨a, cap, rfl, hown, hbel⟩)
  simp only [et, et2, et3] at *
  have hlen : (ints (hexRow (n % 4) (n / 4 % 4) (n / 16 % 4))).length = 6 := by rw [ints_length]; exact hrow.out.1
  rw [hlen]
  rw [hlen] at hown
  obtain ⟨g, rfl, hB, hg, hc⟩ := hown.head (by rw [hlen]; decide)
  rw [hlen] at hc
  have Hc := Lib.hid hc
  clear hlen hc hown et et2 et3
  have Hn := Lib.hid hn
  clear m0 m1 hn
  go_loopw [5, 6, 7, 8] (fun s t c f wr => ∃ k : Nat, k ≤ 5 ∧ c = .int .i64 ((k + 1 : Nat) : Int) ∧ s = .int .i64 (encS n k) ∧ t = .int .i64 (topS n k) ∧ Below w1.heap.size w1 wr) (fun _ _ c _ _ => 7 - (intOf c).toNat)
  case atStart => exact ⟨0, by omega, rfl, rfl, rfl, Below.refl _ _⟩
  case round =>
    obtain ⟨k, hk, rfl, rfl, rfl, hbk⟩ := hrel
    by_cases hlt : k < 5
    · have hcx := (hbk.cell (p := ⟨g, k + 1, none⟩) hg).trans (Hc.out (k + 1) (by omega))
      rw [ints_at] at hcx
      have Hs1 : Hid (encS n (k + 1) = encS n k + fill ((hexRow (n % 4) (n / 4 % 4) (n / 16 % 4)).getD (k + 1) 0) p (bitN n (7 + k)) * 2 ^ (4 * (k + 1))) := by
        have : encS n (k + 1) = encS n k + fill ((hexRow (n % 4) (n / 4 % 4) (n / 16 % 4)).getD (k + 1) 0) p (bitN n (7 + k)) * 2 ^ (4 * (k + 1)) := by rw [hp2.out]; rfl
        exact this
      have Ht1 : Hid (topS n (k + 1) = topS n k ^^^ bitN n (7 + k)) := Lib.hid rfl
      have hd : (hexRow (n % 4) (n / 4 % 4) (n / 16 % 4)).getD (k + 1) 0 < 4 := by
        have hl : k + 1 < (hexRow (n % 4) (n / 4 % 4) (n / 16 % 4)).length := by rw [hrow.out.1]; omega
        simp only [List.getD, List.getElem?_eq_getElem hl, Option.getD_some]
        exact hrow.out.2 _ (List.getElem_mem hl)
      have hb := bitN_lt n (7 + k)
      have eb : bitN n (6 + (k + 1)) = bitN n (7 + k) := by rw [show 6 + (k + 1) = 7 + k by omega]
      have hsh := (shr_bit n (6 + (k + 1)) (by have := Hn.out; omega)).trans (congrArg (fun x : Nat => (x : Int)) eb)
      clear eb
      have HL : Hid (encS n (k + 1) < 16777216) := by
        have h1 := encS_lt n (k + 1) (by omega)
        have h2 : 2 ^ (4 * (k + 1 + 1)) ≤ 2 ^ 24 := Nat.pow_le_pow_right (by decide) (by omega)
        have h3 : encS n (k + 1) < 16777216 := Nat.lt_of_lt_of_le h1 h2
        exact h3
      have htl := topS_lt n k
      have hx := i64_xor (topS n k) (bitN n (7 + k)) (by omega) (by omega)
      generalize encS n k = s0 at *
      generalize topS n k = t0 at *
      generalize bitN n (7 + k) = b at *
      generalize (hexRow (n % 4) (n / 4 % 4) (n / 16 % 4)).getD (k + 1) 0 = d at *
      obtain ⟨q, hq, hs1⟩ : ∃ q : Nat, q = fill d p b * 2 ^ (4 * (k + 1)) ∧ Hid (encS n (k + 1) = s0 + q) := ⟨_, rfl, Hs1.out⟩
      have hlt2 : s0 + q < 16777216 := by rw [← hs1.out]; exact HL.out
      have hqw := wrap_mul (fill d p b) (k + 1) q hq (Nat.lt_of_le_of_lt (Nat.le_add_left q s0) hlt2)
      have hqv : wrap64 ((fill d p b : Nat) * 2 ^ (4 * (k + 1))) = (q : Int) := (IntWalk.i64_left _).symm.trans hqw
      have hs2 := wrap_sum s0 q hlt2
      have hs3 : wrap64 ((s0 : Int) + (q : Int)) = ((s0 + q : Nat) : Int) := (IntWalk.i64_left _).symm.trans hs2
      clear hlt2
      clear hq Hs1
      go_wp2_with (go_at_call 39; refine (l3Fill_any _ _ _ (by omega) (by omega) (by omega) (by omega) (by omega) (by omega) _).mono ?_; rintro e w2 ⟨rfl, hb2⟩; simp only [Int.toNat_natCast])
      go_roundw
      case rel => exact ⟨k + 1, by omega, by go_num, by rw [hs1.out]; go_num, by rw [Ht1.out], hbk.trans (hb2.mono hbk.size)⟩
      case measure => simp [intOf]; omega
    · have hc0 := (hbk.cell (p := ⟨g, 0, none⟩) hg).trans (Hc.out 0 (by omega))
      rw [ints_at] at hc0
      obtain rfl : k = 5 := by omega
      have hd : (hexRow (n % 4) (n / 4 % 4) (n / 16 % 4)).getD 0 0 = n % 4 := rfl
      rw [hd] at hc0
      have hn4 : n % 4 < 4 := by omega
      have htl := topS_lt n 5
      have hx := i64_xor (topS n 5) p (by omega) (by omega)
      have hxl : topS n 5 ^^^ p < 2 := Nat.xor_lt_two_pow (n := 1) htl hp3
      have HE2 : Hid (enc n = encS n 5 + fill (n % 4) p (topS n 5 ^^^ p)) := by
        have := HE.out; rwa [← hp2.out] at this
      have hfl := (fill_of (n % 4) hn4 p hp3 _ hxl).1
      have HL : Hid (encS n 5 + fill (n % 4) p (topS n 5 ^^^ p) < 16777216) := by
        have := (enc_ok n Hn.out).1
        rwa [HE2.out] at this
      generalize n % 4 = a at *
      generalize topS n 5 ^^^ p = z at *
      generalize topS n 5 = t0 at *
      generalize encS n 5 = s0 at *
      have hs2 := wrap_sum s0 (fill a p z) HL.out
      have hs3 : wrap64 ((s0 : Int) + ((fill a p z : Nat) : Int)) = ((s0 + fill a p z : Nat) : Int) := (IntWalk.i64_left _).symm.trans hs2
      go_wp2_with (go_at_call 39; refine (l3Fill_any _ _ _ (by omega) (by omega) (by omega) (by omega) (by omega) (by omega) _).mono ?_; rintro e w2 ⟨rfl, hb2⟩; simp only [Int.toNat_natCast])
      go_ret
      refine ⟨ret_int ?_, ?_⟩
      · rw [Int.toNat_natCast, HE2.out]; rfl
      · have q1 := hbel.trans (hbk.mono hbel.size)
        exact q1.trans (hb2.mono q1.size)
end Go.Proofs.YtdcljbohoefpcaaDoor
