/- Contracts of the messages of words of the code, of both. No condition beyond those stated. -/
import Derived.Test.YtompdebingllmaaCodeIn
import Derived.Test.YtompdebingllmaaDraw1
namespace Go.Proofs.Ytompdebingllmaa
open Go.RowKit Gol
/-- the message, place by place -/
def msgK (w : Nat) : Nat → Nat
  | 0 => sc (nib w 0) + 4 * sc (nib w 1) + 16 * sc (nib w 2) + 64 * (pc (nib w 0) % 2)
  | k + 1 => msgK w k + bitN w (4 * (k + 1)) * 2 ^ (6 + (k + 1))
theorem msgK_five (w : Nat) : msgK w 5 = msg w := by
  have e : msgK w 5 = sc (nib w 0) + 4 * sc (nib w 1) + 16 * sc (nib w 2) + 64 * (pc (nib w 0) % 2) + bitN w 4 * 128 + bitN w 8 * 256 + bitN w 12 * 512 + bitN w 16 * 1024 + bitN w 20 * 2048 := rfl
  rw [e, msg, par_pc]
  omega
theorem msgK_lt (w : Nat) : ∀ k, k ≤ 5 → msgK w k < 2 ^ (7 + k)
  | 0, _ => by
    have h1 := sc_lt w 0; have h2 := sc_lt w 1; have h3 := sc_lt w 2
    show sc (nib w 0) + 4 * sc (nib w 1) + 16 * sc (nib w 2) + 64 * (pc (nib w 0) % 2) < 128
    omega
  | k + 1, h => by
    have ih := msgK_lt w k (by omega)
    have hb := bitN_lt w (4 * (k + 1))
    have p : 2 ^ (7 + (k + 1)) = 2 * 2 ^ (7 + k) := by rw [show 7 + (k + 1) = 1 + (7 + k) by omega, Nat.pow_add]
    have q : bitN w (4 * (k + 1)) * 2 ^ (6 + (k + 1)) ≤ 1 * 2 ^ (7 + k) := by rw [show 6 + (k + 1) = 7 + k by omega]; exact Nat.mul_le_mul_right _ (by omega)
    unfold msgK
    omega
theorem msgK_or (w k : Nat) (hk : k < 5) : msgK w k ||| bitN w (4 * (k + 1)) * 2 ^ (6 + (k + 1)) = msgK w (k + 1) := by
  have h := Nat.two_pow_add_eq_or_of_lt (msgK_lt w k (by omega)) (bitN w (4 * (k + 1)))
  rw [show 7 + k = 6 + (k + 1) by omega, Nat.mul_comm, Nat.add_comm, Nat.or_comm] at h
  exact h.symm
theorem msg_or : ∀ a, a < 4 → ∀ b, b < 4 → ∀ c, c < 4 → ∀ p, p < 2 → a ||| b * 4 ||| c * 16 ||| p * 64 = a + 4 * b + 16 * c + 64 * p := by decide
theorem or_small {a b : Nat} (ha : a < 4611686018427387904) (hb : b < 4611686018427387904) : a ||| b < 4611686018427387904 := Nat.or_lt_two_pow (n := 62) ha hb
theorem msg_base {a b c q : Nat} (ha : a < 4) (hb : b < 4) (hc : c < 4) :
    bits .or .i64 (bits .or .i64 (bits .or .i64 (a : Int) ((b : Int) * 4)) ((c : Int) * 16)) ((q : Int) % 2 * 64) = ((a + 4 * b + 16 * c + 64 * (q % 2) : Nat) : Int) := by
  have e1 : (b : Int) * 4 = ((b * 4 : Nat) : Int) := by omega
  have e2 : (c : Int) * 16 = ((c * 16 : Nat) : Int) := by omega
  have e3 : (q : Int) % 2 * 64 = ((q % 2 * 64 : Nat) : Int) := by omega
  have b1 : a ||| b * 4 < 4611686018427387904 := or_small (by omega) (by omega)
  have b2 : a ||| b * 4 ||| c * 16 < 4611686018427387904 := or_small b1 (by omega)
  rw [e1, e2, e3, i64_or _ _ (by omega) (by omega), i64_or _ _ (by omega) (by omega), i64_or _ _ (by omega) (by omega), msg_or a ha b hb c hc (q % 2) (Nat.mod_lt _ (by decide))]
theorem wrap_pow (f j q : Nat) (h : q = f * 2 ^ j) (hq : q < 16777216) : wrap64 ((f : Int) * 2 ^ j) = (q : Int) := by
  have e : (f : Int) * 2 ^ j = (q : Int) := by rw [h]; simp
  rw [e]
  exact (IntWalk.i64_left _).symm.trans (i64_nat _ (by omega))
theorem in_top {n : Nat} (h : inCode n = true) : top n = pc (nib n 0) % 2 := by
  rw [← par_pc]
  simp only [inCode, Bool.and_eq_true, beq_iff_eq] at h
  exact h.1.1.1.1.1.1.symm
def IntIs2 (x : Int) (ok : Bool) (W : World) (e : Ending) (W' : World) : Prop := e = .returned (.tuple #[.int .i64 x, .bool ok]) ∧ Below W.heap.size W W'
def msgZ (w : Int) : Int := if codeB w then (msg w.toNat : Nat) else 0
theorem quiet_column (n c : Nat) (hn : n < 16777216) (hc : c < 6) (W : World) (m : Nat) :
    Calls Try.prog 55 #[.int .i64 n, .int .i64 c] (W.drewN m) fun e w' => e = .returned (.int .i64 (nib n c : Nat)) ∧ ∃ m, w' = W.drewN m :=
  Calls.quiet_of_same ((column_any n c hn hc _).mono fun _ _ h => ⟨h.1, h.2.symm⟩)
theorem quiet_column0 (n : Nat) (hn : n < 16777216) (W : World) (m : Nat) :
    Calls Try.prog 55 #[.int .i64 n, .int .i64 0] (W.drewN m) fun e w' => e = .returned (.int .i64 (nib n 0 : Nat)) ∧ ∃ m, w' = W.drewN m := quiet_column n 0 hn (by omega) W m
theorem quiet_weight (n : Nat) (hn : IsW n) (W : World) (m : Nat) :
    Calls Try.prog 54 #[.int .i64 n] (W.drewN m) fun e w' => e = .returned (.int .i64 (pc n : Nat)) ∧ ∃ m, w' = W.drewN m :=
  Calls.quiet_of_same ((weight_any n hn _).mono fun _ _ h => ⟨h.1, h.2.symm⟩)
theorem quiet_top (n : Nat) (hn : n < 16777216) (W : World) (m : Nat) :
    Calls Try.prog 66 #[.int .i64 n] (W.drewN m) fun e w' => e = .returned (.int .i64 (top n : Nat)) ∧ ∃ m, w' = W.drewN m :=
  Calls.quiet_of_same ((l3Top_any n hn _).mono fun _ _ h => ⟨h.1, h.2.symm⟩)
set_option maxHeartbeats 2000000 in
theorem implCodeMessage_any (w : Int) (W : World) : Calls Try.prog 43 #[.int .i64 w] W (IntIs2 (msgZ w) (codeB w) W) := by
  by_cases hB : codeB w = true
  · obtain ⟨hw1, hin⟩ := Bool.and_eq_true_iff.1 hB
    have hw : IsW w := by simpa [isW, IsW] using hw1
    obtain ⟨n, rfl, hn⟩ := hw.of
    have hz : msgZ n = (msg n : Nat) := by simp [msgZ, hB]
    rw [hz, hB]
    have Hn := Lib.hid hn
    have HB := Lib.hid hB
    have H5 := Lib.hid (msgK_five n)
    clear hz hB hw1 hw hin
    go_enter Try.func43, Try.ntmps43
    go_wp2_with fail
    refine (implCodeIn_any n _).mono ?_
    rintro e w1 ⟨rfl, hb1⟩
    rw [HB.out]
    clear HB
    go_wp2_with fail
    refine (scores_any n Hn.out _).mono ?_
    rintro e w2 ⟨a2, c2, rfl, ho2, hb2⟩
    rw [scores_len] at ho2 ⊢
    obtain ⟨g, rfl, _, hg, hc⟩ := ho2.head (by rw [scores_len]; decide)
    have c0 : w2.cell? ⟨g, 0, none⟩ = some (.int .i64 (sc (nib n 0) : Nat)) := hc 0 (by rw [scores_len]; decide)
    have c1 : w2.cell? ⟨g, 1, none⟩ = some (.int .i64 (sc (nib n 1) : Nat)) := hc 1 (by rw [scores_len]; decide)
    have c2 : w2.cell? ⟨g, 2, none⟩ = some (.int .i64 (sc (nib n 2) : Nat)) := hc 2 (by rw [scores_len]; decide)
    have q2 := hb1.trans (hb2.mono hb1.size)
    have s0 := sc_lt n 0
    have s1 := sc_lt n 1
    have s2 := sc_lt n 2
    have hW := nib_isW n 0
    have Hq2 := Lib.hid q2
    have HK : Hid (msgK n 0 = sc (nib n 0) + 4 * sc (nib n 1) + 16 * sc (nib n 2) + 64 * (pc (nib n 0) % 2)) := Lib.hid rfl
    clear hc ho2 hb1 hb2 hn q2
    generalize sc (nib n 0) = x0 at *
    generalize sc (nib n 1) = x1 at *
    generalize sc (nib n 2) = x2 at *
    go_wp2
    go_quiet (first | (go_at_call 55; exact quiet_column0 n Hn.out _ _) | (go_at_call 54; exact quiet_weight _ hW _ _))
    have HV : Hid (bits .or .i64 (bits .or .i64 (bits .or .i64 (x0 : Int) ((x1 : Int) * 4)) ((x2 : Int) * 16)) ((pc (nib n 0) : Int) % 2 * 64) = ((msgK n 0 : Nat) : Int)) := Lib.hid (by rw [HK.out]; exact msg_base s0 s1 s2)
    clear HK c0 c1 c2 s0 s1 s2 hW hg
    go_wp2
    go_loop [5, 6] (fun s c => ∃ k : Nat, k ≤ 5 ∧ c = .int .i64 ((k + 1 : Nat) : Int) ∧ s = .int .i64 (msgK n k : Nat)) (fun _ c => 7 - (intOf c).toNat)
    case atStart => exact ⟨0, by omega, rfl, by rw [HV.out]⟩
    case round =>
      obtain ⟨k, hk, rfl, rfl⟩ := hrel
      by_cases hlt : k < 5
      · have hb2 := bitN_lt n (4 * (k + 1))
        have hb := shr_bit n (4 * (k + 1)) (by have := Hn.out; omega)
        have HO : Hid (msgK n k ||| bitN n (4 * (k + 1)) * 2 ^ (6 + (k + 1)) = msgK n (k + 1)) := Lib.hid (msgK_or n k hlt)
        have HL : Hid (msgK n (k + 1) < 16777216) := Lib.hid (by
          have h1 := msgK_lt n (k + 1) (by omega)
          have h2 : 2 ^ (7 + (k + 1)) ≤ 2 ^ 24 := Nat.pow_le_pow_right (by decide) (by omega)
          exact Nat.lt_of_lt_of_le h1 h2)
        generalize bitN n (4 * (k + 1)) = b at *
        obtain ⟨q, hq⟩ : ∃ q : Nat, q = b * 2 ^ (6 + (k + 1)) := ⟨_, rfl⟩
        rw [← hq] at HO
        have hq2 : q ≤ msgK n (k + 1) := by rw [← HO.out]; exact Nat.right_le_or
        have hs2 : msgK n k ≤ msgK n (k + 1) := by rw [← HO.out]; exact Nat.left_le_or
        have hql : q < 16777216 := Nat.lt_of_le_of_lt hq2 HL.out
        have hsl : msgK n k < 16777216 := Nat.lt_of_le_of_lt hs2 HL.out
        have hqv := wrap_pow b (6 + (k + 1)) q hq hql
        have hx := i64_or (msgK n k) q (Nat.lt_trans hsl (by decide)) (Nat.lt_trans hql (by decide))
        rw [HO.out] at hx
        clear hq hq2 hs2 hql hsl HO
        obtain ⟨s', hs'⟩ : ∃ s', msgK n (k + 1) = s' := ⟨_, rfl⟩
        have HS' := Lib.hid hs'
        rw [hs'] at hx HL
        clear hs'
        generalize msgK n k = s at *
        go_wp2
        go_round
        case rel => exact ⟨k + 1, by omega, by go_num, by rw [HS'.out]⟩
        case measure => simp [intOf]; omega
      · have e : k = 5 := by omega
        subst e
        rw [H5.out]
        go_wp2
        go_ret2
        exact ⟨rfl, below_drewN Hq2.out _⟩
  · have hB : codeB w = false := by simpa using hB
    have hz : msgZ w = 0 := by simp [msgZ, hB]
    rw [hz, hB]
    have HB := Lib.hid hB
    clear hz hB
    go_enter Try.func43, Try.ntmps43
    go_wp2_with fail
    refine (implCodeIn_any w _).mono ?_
    rintro e w1 ⟨rfl, hb1⟩
    rw [HB.out]
    go_wp2
    go_ret2
    exact ⟨rfl, hb1⟩
set_option maxHeartbeats 2000000 in
theorem specCodeMessage_any (w : Int) (W : World) : Calls Try.prog 44 #[.int .i64 w] W (IntIs2 (msgZ w) (codeB w) W) := by
  by_cases hB : codeB w = true
  · obtain ⟨hw1, hin⟩ := Bool.and_eq_true_iff.1 hB
    have hw : IsW w := by simpa [isW, IsW] using hw1
    obtain ⟨n, rfl, hn⟩ := hw.of
    have hz : msgZ n = (msg n : Nat) := by simp [msgZ, hB]
    rw [hz, hB]
    have Hn := Lib.hid hn
    have HB := Lib.hid hB
    have H5 := Lib.hid (msgK_five n)
    have HT : Hid (top n = pc (nib n 0) % 2) := Lib.hid (in_top (by simpa using hin))
    clear hz hB hw1 hw hin
    go_enter Try.func44, Try.ntmps44
    go_wp2_with fail
    refine (specCodeIn_any n _).mono ?_
    rintro e w1 ⟨rfl, hb1⟩
    rw [HB.out]
    clear HB
    go_wp2_with fail
    refine (l3Scores_any n Hn.out _).mono ?_
    rintro e w2 ⟨a2, c2, rfl, ho2, hb2⟩
    rw [scores_len] at ho2 ⊢
    obtain ⟨g, rfl, _, hg, hc⟩ := ho2.head (by rw [scores_len]; decide)
    have c0 : w2.cell? ⟨g, 0, none⟩ = some (.int .i64 (sc (nib n 0) : Nat)) := hc 0 (by rw [scores_len]; decide)
    have c1 : w2.cell? ⟨g, 1, none⟩ = some (.int .i64 (sc (nib n 1) : Nat)) := hc 1 (by rw [scores_len]; decide)
    have c2 : w2.cell? ⟨g, 2, none⟩ = some (.int .i64 (sc (nib n 2) : Nat)) := hc 2 (by rw [scores_len]; decide)
    have q2 := hb1.trans (hb2.mono hb1.size)
    have s0 := sc_lt n 0
    have s1 := sc_lt n 1
    have s2 := sc_lt n 2
    have t2 := top_two n
    have Hq2 := Lib.hid q2
    have HK : Hid (msgK n 0 = sc (nib n 0) + 4 * sc (nib n 1) + 16 * sc (nib n 2) + 64 * top n) := Lib.hid (by rw [HT.out]; rfl)
    clear hc ho2 hb1 hb2 hn q2
    generalize sc (nib n 0) = x0 at *
    generalize sc (nib n 1) = x1 at *
    generalize sc (nib n 2) = x2 at *
    go_wp2
    go_quiet (first | (go_at_call 66; exact quiet_top n Hn.out _ _))
    generalize top n = t at *
    clear c0 c1 c2 hg
    go_wp2
    go_loop [5, 6] (fun s c => ∃ k : Nat, k ≤ 5 ∧ c = .int .i64 ((k + 1 : Nat) : Int) ∧ s = .int .i64 (msgK n k : Nat)) (fun _ c => 7 - (intOf c).toNat)
    case atStart => exact ⟨0, by omega, rfl, by rw [HK.out]; go_num⟩
    case round =>
      obtain ⟨k, hk, rfl, rfl⟩ := hrel
      by_cases hlt : k < 5
      · have hb2 := bitN_lt n (4 * (k + 1))
        have hb : Hid (bitN (n : Int).toNat (4 * ((k : Int) + 1)).toNat = bitN n (4 * (k + 1))) := Lib.hid (by rw [show (4 * ((k : Int) + 1)).toNat = 4 * (k + 1) by omega, Int.toNat_natCast])
        have HO : Hid (msgK n (k + 1) = msgK n k + bitN n (4 * (k + 1)) * 2 ^ (6 + (k + 1))) := Lib.hid rfl
        have HL : Hid (msgK n (k + 1) < 16777216) := Lib.hid (by
          have h1 := msgK_lt n (k + 1) (by omega)
          have h2 : 2 ^ (7 + (k + 1)) ≤ 2 ^ 24 := Nat.pow_le_pow_right (by decide) (by omega)
          exact Nat.lt_of_lt_of_le h1 h2)
        generalize bitN n (4 * (k + 1)) = b at *
        obtain ⟨q, hq⟩ : ∃ q : Nat, q = b * 2 ^ (6 + (k + 1)) := ⟨_, rfl⟩
        rw [← hq] at HO
        have hsum : msgK n k + q < 16777216 := by rw [← HO.out]; exact HL.out
        have hqv := wrap_pow b (6 + (k + 1)) q hq (by omega)
        clear hq HL
        generalize msgK n k = s at *
        have hs3 : wrap64 ((s : Int) + (q : Int)) = ((s + q : Nat) : Int) := (IntWalk.i64_left _).symm.trans (wrap_sum s q hsum)
        clear hsum
        go_wp2_with (go_at_call 67; refine (l1Bit_any _ _ (by omega) (by have := Hn.out; omega) (by omega) (by omega) _).mono ?_; rintro e w' ⟨rfl, rfl⟩; simp only [hb.out])
        go_round
        case rel => exact ⟨k + 1, by omega, by go_num, by rw [HO.out]; go_num⟩
        case measure => simp [intOf]; omega
      · have e : k = 5 := by omega
        subst e
        rw [H5.out]
        go_wp2
        go_ret2
        exact ⟨rfl, below_drewN Hq2.out _⟩
  · have hB : codeB w = false := by simpa using hB
    have hz : msgZ w = 0 := by simp [msgZ, hB]
    rw [hz, hB]
    have HB := Lib.hid hB
    clear hz hB
    go_enter Try.func44, Try.ntmps44
    go_wp2_with fail
    refine (specCodeIn_any w _).mono ?_
    rintro e w1 ⟨rfl, hb1⟩
    rw [HB.out]
    go_wp2
    go_ret2
    exact ⟨rfl, hb1⟩
end Go.Proofs.Ytompdebingllmaa
