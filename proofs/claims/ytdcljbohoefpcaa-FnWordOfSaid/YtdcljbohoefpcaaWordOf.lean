/- Contracts of the two words of a list. No condition beyond those stated. -/
import Derived.Test.YtdcljbohoefpcaaWords2
namespace Go.Proofs.Ytdcljbohoefpcaa
open Go.RowKit Gol
def ofV (o : Option Nat) : Value := .tuple #[.int .i64 (o.getD 0 : Nat), .bool o.isSome]
set_option maxHeartbeats 1000000 in
theorem implOf (v : Value) (zs : List Int) (W : World) (hr : Rd W v zs) (hl : zs.length ≤ 1048576) :
    Calls Try.prog 31 #[v] W fun e W' => e = .returned (ofV (ofL 0 zs)) ∧ W = W' := by
  have Hl := Lib.hid hl; clear hl
  rcases hr with ⟨rfl, a, cap, rfl⟩ | ⟨b, off, cap, rfl, hb, hc⟩
  · go_enter Try.func31, Try.ntmps31
    go_wp2
    refine wp_loop_rounds 1 ?_; rw [rounds_succ]
    go_wp2
    go_ret2
    exact ⟨rfl, rfl⟩
  · obtain ⟨n, hn⟩ : ∃ n, n = zs.length := ⟨_, rfl⟩
    rw [← hn]
    have Hn := Lib.hid hn; clear hn
    have Hc := Lib.hid hc; clear hc
    generalize hg : ofV (ofL 0 zs) = R
    have Hg := Lib.hid hg; clear hg
    go_enter Try.func31, Try.ntmps31
    go_wp2
    go_loop [4, 6, 9] (fun s p i => ∃ k acc : Nat, k ≤ n ∧ i = .int .i64 k ∧ s = .int .i64 acc ∧ ofL 0 zs = ofL acc (zs.drop k) ∧ Hid (acc < 16777216)) (fun _ _ i => n - (intOf i).toNat)
    case atStart => exact ⟨0, 0, by omega, rfl, rfl, rfl, Lib.hid (by decide)⟩
    case round =>
      obtain ⟨k, acc, hk, rfl, rfl, heq, Hacc⟩ := hrel
      have Heq := Lib.hid heq; clear heq
      by_cases hlt : k < n
      · have hlt' : k < zs.length := by rw [← Hn.out]; exact hlt
        have i1 : (k : Int) < (n : Int) := by omega
        have i3 : (k : Int) < 9223372036854775807 := by have := Hl.out; have := Hn.out; omega
        have hcx := Hc.out k hlt'
        have hd : zs.drop k = zs.getD k 0 :: zs.drop (k + 1) := by rw [List.drop_eq_getElem_cons hlt']; simp [List.getD, hlt']
        generalize hp : zs.getD k 0 = p at hcx hd
        have Hd := Lib.hid hd
        clear hp hd hlt'
        have none_of : ¬ (0 ≤ p ∧ p ≤ 23 ∧ bitN acc p.toNat = 0) → ofV (ofL 0 zs) = .tuple #[.int .i64 0, .bool false] := by
          intro h
          rw [Heq.out, Hd.out]
          simp only [ofL, if_neg h]
          rfl
        by_cases p0 : 0 ≤ p
        · by_cases p1 : p ≤ 23
          · obtain ⟨q, rfl⟩ := Int.eq_ofNat_of_zero_le p0
            have hbl := bitN_lt acc q
            by_cases hbit : bitN acc q = 1
            · have hz : ((bitN acc q : Nat) : Int) = 1 := by omega
              have Hno := Lib.hid (none_of (fun h => by have := h.2.2; rw [Int.toNat_natCast] at this; omega))
              have hsh := shr_bit acc q (by have := Hacc.out; omega)
              rw [hz] at hsh
              clear none_of
              go_wp2
              go_ret2
              exact ⟨by rw [← Hg.out, Hno.out]; rfl, rfl⟩
            · have hb0 : bitN acc q = 0 := by omega
              have hz : ¬ ((bitN acc q : Nat) : Int) = 1 := by omega
              have hz0 : ((bitN acc q : Nat) : Int) = 0 := by omega
              have hsh := shr_bit acc q (by have := Hacc.out; omega)
              rw [hz0] at hsh
              have Hstep : Hid (ofL 0 zs = ofL (acc + 2 ^ q) (zs.drop (k + 1))) := by
                have : ofL 0 zs = ofL (acc + 2 ^ q) (zs.drop (k + 1)) := by
                  rw [Heq.out, Hd.out]
                  simp only [ofL, Int.toNat_natCast]
                  rw [if_pos ⟨p0, p1, hb0⟩]
                exact this
              have Hacc2 : Hid (acc + 2 ^ q < 16777216) := lt24_add acc q Hacc.out (by omega) hb0
              have hsl := shl_one q (by omega)
              have hsl' : IntKind.i64.wrap (2 ^ q) = ((2 ^ q : Nat) : Int) := by rw [← hsl, Int.one_mul]
              have hor := i64_or acc (2 ^ q) (by have := Hacc.out; omega) (by have := Hacc2.out; omega)
              rw [← add_bit acc q hb0] at hor
              have hw1 : IntKind.i64.wrap ((acc : Int) + ((2 ^ q : Nat) : Int)) = ((acc + 2 ^ q : Nat) : Int) := by rw [← Int.natCast_add]; exact i64_nat _ (by have := Hacc2.out; omega)
              generalize 2 ^ q = t at *
              clear none_of hb0
              have hw2 : wrap64 ((acc : Int) + (t : Int)) = ((acc + t : Nat) : Int) := (IntWalk.i64_left _).symm.trans hw1
              go_wp2
              go_round
              case rel => exact ⟨k + 1, acc + t, by omega, by go_num, by first | rfl | go_num, Hstep.out, Hacc2⟩
              case measure => simp [intOf]; omega
          · have Hno := Lib.hid (none_of (fun h => p1 h.2.1))
            clear none_of
            go_wp2
            go_ret2
            exact ⟨by rw [← Hg.out, Hno.out]; rfl, rfl⟩
        · have Hno := Lib.hid (none_of (fun h => p0 h.1))
          clear none_of
          go_wp2
          go_ret2
          exact ⟨by rw [← Hg.out, Hno.out]; rfl, rfl⟩
      · go_wp2
        have e : k = n := by omega
        go_ret2
        refine ⟨?_, rfl⟩
        rw [← Hg.out, Heq.out, e, List.drop_of_length_le (by rw [Hn.out]; exact Nat.le_refl _)]
        rfl
set_option maxHeartbeats 1000000 in
theorem specOf (v : Value) (zs : List Int) (W : World) (hr : Rd W v zs) (hl : zs.length ≤ 1048576) :
    Calls Try.prog 29 #[v] W fun e W' => e = .returned (ofV (ofL 0 zs)) ∧ W = W' := by
  have Hl := Lib.hid hl; clear hl
  rcases hr with ⟨rfl, a, cap, rfl⟩ | ⟨b, off, cap, rfl, hb, hc⟩
  · go_enter Try.func29, Try.ntmps29
    go_wp2
    refine wp_loop_rounds 1 ?_; rw [rounds_succ]
    go_wp2
    go_ret2
    exact ⟨rfl, rfl⟩
  · obtain ⟨n, hn⟩ : ∃ n, n = zs.length := ⟨_, rfl⟩
    rw [← hn]
    have Hn := Lib.hid hn; clear hn
    have Hc := Lib.hid hc; clear hc
    generalize hg : ofV (ofL 0 zs) = R
    have Hg := Lib.hid hg; clear hg
    go_enter Try.func29, Try.ntmps29
    go_wp2
    go_loop [4, 5] (fun s i => ∃ k acc : Nat, k ≤ n ∧ i = .int .i64 k ∧ s = .int .i64 acc ∧ ofL 0 zs = ofL acc (zs.drop k) ∧ Hid (acc < 16777216)) (fun _ i => n - (intOf i).toNat)
    case atStart => exact ⟨0, 0, by omega, rfl, rfl, rfl, Lib.hid (by decide)⟩
    case round =>
      obtain ⟨k, acc, hk, rfl, rfl, heq, Hacc⟩ := hrel
      have Heq := Lib.hid heq; clear heq
      by_cases hlt : k < n
      · have hlt' : k < zs.length := by rw [← Hn.out]; exact hlt
        have i1 : (k : Int) < (n : Int) := by omega
        have i3 : (k : Int) < 9223372036854775807 := by have := Hl.out; have := Hn.out; omega
        have hcx := Hc.out k hlt'
        have hd : zs.drop k = zs.getD k 0 :: zs.drop (k + 1) := by rw [List.drop_eq_getElem_cons hlt']; simp [List.getD, hlt']
        generalize hp : zs.getD k 0 = p at hcx hd
        have Hd := Lib.hid hd
        clear hp hd hlt'
        have none_of : ¬ (0 ≤ p ∧ p ≤ 23 ∧ bitN acc p.toNat = 0) → ofV (ofL 0 zs) = .tuple #[.int .i64 0, .bool false] := by
          intro h
          rw [Heq.out, Hd.out]
          simp only [ofL, if_neg h]
          rfl
        by_cases p0 : 0 ≤ p
        · by_cases p1 : p ≤ 23
          · obtain ⟨q, rfl⟩ := Int.eq_ofNat_of_zero_le p0
            have hbl := bitN_lt acc q
            by_cases hbit : bitN acc q = 1
            · have hz : ((bitN acc q : Nat) : Int) = 1 := by omega
              have Hno := Lib.hid (none_of (fun h => by have := h.2.2; rw [Int.toNat_natCast] at this; omega))
              have hsh := shr_bit acc q (by have := Hacc.out; omega)
              rw [hz] at hsh
              clear none_of
              go_wp2_with (first | (go_at_call 55; refine (l1Bit_any _ _ (by omega) (by have := Hacc.out; omega) (by omega) (by omega) _).mono ?_; rintro e w' ⟨rfl, rfl⟩; simp only [Int.toNat_natCast]) | go_in)
              go_ret2
              exact ⟨by rw [← Hg.out, Hno.out]; rfl, rfl⟩
            · have hb0 : bitN acc q = 0 := by omega
              have hz : ¬ ((bitN acc q : Nat) : Int) = 1 := by omega
              have hz0 : ((bitN acc q : Nat) : Int) = 0 := by omega
              have hsh := shr_bit acc q (by have := Hacc.out; omega)
              rw [hz0] at hsh
              have Hstep : Hid (ofL 0 zs = ofL (acc + 2 ^ q) (zs.drop (k + 1))) := by
                have : ofL 0 zs = ofL (acc + 2 ^ q) (zs.drop (k + 1)) := by
                  rw [Heq.out, Hd.out]
                  simp only [ofL, Int.toNat_natCast]
                  rw [if_pos ⟨p0, p1, hb0⟩]
                exact this
              have Hacc2 : Hid (acc + 2 ^ q < 16777216) := lt24_add acc q Hacc.out (by omega) hb0
              have hsl := shl_one q (by omega)
              have hsl' : IntKind.i64.wrap (2 ^ q) = ((2 ^ q : Nat) : Int) := by rw [← hsl, Int.one_mul]
              have hor := i64_or acc (2 ^ q) (by have := Hacc.out; omega) (by have := Hacc2.out; omega)
              rw [← add_bit acc q hb0] at hor
              have hw1 : IntKind.i64.wrap ((acc : Int) + ((2 ^ q : Nat) : Int)) = ((acc + 2 ^ q : Nat) : Int) := by rw [← Int.natCast_add]; exact i64_nat _ (by have := Hacc2.out; omega)
              generalize 2 ^ q = t at *
              clear none_of hb0
              have hw2 : wrap64 ((acc : Int) + (t : Int)) = ((acc + t : Nat) : Int) := (IntWalk.i64_left _).symm.trans hw1
              go_wp2_with (first | (go_at_call 55; refine (l1Bit_any _ _ (by omega) (by have := Hacc.out; omega) (by omega) (by omega) _).mono ?_; rintro e w' ⟨rfl, rfl⟩; simp only [Int.toNat_natCast]) | go_in)
              go_round
              case rel => exact ⟨k + 1, acc + t, by omega, by go_num, by first | rfl | go_num, Hstep.out, Hacc2⟩
              case measure => simp [intOf]; omega
          · have Hno := Lib.hid (none_of (fun h => p1 h.2.1))
            clear none_of
            go_wp2
            go_ret2
            exact ⟨by rw [← Hg.out, Hno.out]; rfl, rfl⟩
        · have Hno := Lib.hid (none_of (fun h => p0 h.1))
          clear none_of
          go_wp2
          go_ret2
          exact ⟨by rw [← Hg.out, Hno.out]; rfl, rfl⟩
      · go_wp2
        have e : k = n := by omega
        go_ret2
        refine ⟨?_, rfl⟩
        rw [← Hg.out, Heq.out, e, List.drop_of_length_le (by rw [Hn.out]; exact Nat.le_refl _)]
        rfl
end Go.Proofs.Ytdcljbohoefpcaa
