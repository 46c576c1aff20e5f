/- Contracts of the tests whether a list is a row of digits. No condition beyond those stated. -/
import Derived.Test.YtompdebingllmaaDigits
namespace Go.Proofs.Ytompdebingllmaa
open Go.RowKit Gol
/-- whether a list is a row of six digits -/
def rowB (zs : List Int) : Bool := zs.all dig && decide (zs.length = 6)
set_option maxHeartbeats 1000000 in
theorem rowOk_any (v : Value) (zs : List Int) (W : World) (hr : Rd W v zs) (hl : zs.length ≤ 1048576) :
    Calls Try.prog 62 #[v] W fun e W' => e = .returned (.bool (rowB zs)) ∧ W = W' := by
  have Hl := Lib.hid hl; clear hl
  rcases hr with ⟨rfl, a, cap, rfl⟩ | ⟨b, off, cap, rfl, hb, hc⟩
  · go_enter Try.func62, Try.ntmps62
    go_wp2
    refine wp_loop_rounds 1 ?_; rw [rounds_succ]
    go_wp2
    go_ret
    exact ⟨rfl, rfl⟩
  · obtain ⟨n, hn⟩ : ∃ n, n = zs.length := ⟨_, rfl⟩
    rw [← hn]
    have Hn := Lib.hid hn; clear hn
    have Hc := Lib.hid hc; clear hc
    generalize hg : rowB zs = R
    have Hg := Lib.hid hg; clear hg
    go_enter Try.func62, Try.ntmps62
    go_wp2
    go_loop [4, 7] (fun u4 i => ∃ k : Nat, k ≤ n ∧ i = .int .i64 k ∧ zs.all dig = (zs.drop k).all dig) (fun _ i => n - (intOf i).toNat)
    case atStart => exact ⟨0, by omega, rfl, rfl⟩
    case round =>
      obtain ⟨k, hk, rfl, heq⟩ := hrel
      have Heq := Lib.hid heq; clear heq
      by_cases hlt : k < n
      · have hlt' : k < zs.length := by rw [← Hn.out]; exact hlt
        have i1 : (k : Int) < (n : Int) := by omega
        have i3 : (k : Int) < 9223372036854775807 := by have := Hl.out; have := Hn.out; omega
        have hcx := Hc.out k hlt'
        have hd : zs.drop k = zs.getD k 0 :: zs.drop (k + 1) := by rw [List.drop_eq_getElem_cons hlt']; simp [List.getD, hlt']
        generalize zs.getD k 0 = p at hcx hd
        have Hd := Lib.hid hd
        clear hd hlt'
        by_cases hp : dig p = true
        · have Hstep : Hid (zs.all dig = (zs.drop (k + 1)).all dig) := by
            have : zs.all dig = (zs.drop (k + 1)).all dig := by rw [Heq.out, Hd.out, List.all_cons, hp, Bool.true_and]
            exact this
          go_wp2_with (first | (go_at_call 79; refine (digitOk_any _ _).mono ?_; rintro e w1 ⟨rfl, rfl⟩; simp only [hp]) | go_in)
          go_round
          case rel => exact ⟨k + 1, by omega, by go_num, Hstep.out⟩
          case measure => simp [intOf]; omega
        · have hp : dig p = false := by simpa using hp
          have Hno : Hid (R = false) := by
            have : R = false := by rw [← Hg.out, rowB, Heq.out, Hd.out, List.all_cons, hp]; rfl
            exact this
          obtain rfl := Hno.out
          go_wp2_with (first | (go_at_call 79; refine (digitOk_any _ _).mono ?_; rintro e w1 ⟨rfl, rfl⟩; simp only [hp]) | go_in)
          go_ret
          exact ⟨rfl, rfl⟩
      · have e : k = n := by omega
        have Hall : Hid (R = decide (zs.length = 6)) := by
          have : R = decide (zs.length = 6) := by rw [← Hg.out, rowB, Heq.out, e, List.drop_of_length_le (by rw [Hn.out]; exact Nat.le_refl _)]; simp
          exact this
        by_cases h6 : n = 6
        · have e6 : ((n : Int) == 6) = true := by simp [h6]
          have Hr : Hid (R = true) := by
            have : R = true := by rw [Hall.out, ← Hn.out]; simp [h6]
            exact this
          clear h6
          obtain rfl := Hr.out
          go_wp2
          go_ret
          exact ⟨rfl, rfl⟩
        · have e6 : ((n : Int) == 6) = false := by rw [beq_eq_false_iff_ne]; omega
          have Hr : Hid (R = false) := by
            have : R = false := by rw [Hall.out, ← Hn.out]; simp [h6]
            exact this
          clear h6
          obtain rfl := Hr.out
          go_wp2
          go_ret
          exact ⟨rfl, rfl⟩
set_option maxHeartbeats 1000000 in
theorem l2Row_any (v : Value) (zs : List Int) (W : World) (hr : Rd W v zs) (hl : zs.length ≤ 1048576) :
    Calls Try.prog 87 #[v] W fun e W' => e = .returned (.bool (rowB zs)) ∧ W = W' := by
  have Hl := Lib.hid hl; clear hl
  rcases hr with ⟨rfl, a, cap, rfl⟩ | ⟨b, off, cap, rfl, hb, hc⟩
  · go_enter Try.func87, Try.ntmps87
    go_wp2
    refine wp_loop_rounds 1 ?_; rw [rounds_succ]
    go_wp2
    go_ret
    exact ⟨rfl, rfl⟩
  · obtain ⟨n, hn⟩ : ∃ n, n = zs.length := ⟨_, rfl⟩
    rw [← hn]
    have Hn := Lib.hid hn; clear hn
    have Hc := Lib.hid hc; clear hc
    generalize hg : rowB zs = R
    have Hg := Lib.hid hg; clear hg
    go_enter Try.func87, Try.ntmps87
    go_wp2
    go_loop [3] (fun i => ∃ k : Nat, k ≤ n ∧ i = .int .i64 k ∧ zs.all dig = (zs.drop k).all dig) (fun i => n - (intOf i).toNat)
    case atStart => exact ⟨0, by omega, rfl, rfl⟩
    case round =>
      obtain ⟨k, hk, rfl, heq⟩ := hrel
      have Heq := Lib.hid heq; clear heq
      by_cases hlt : k < n
      · have hlt' : k < zs.length := by rw [← Hn.out]; exact hlt
        have i1 : (k : Int) < (n : Int) := by omega
        have i3 : (k : Int) < 9223372036854775807 := by have := Hl.out; have := Hn.out; omega
        have hcx := Hc.out k hlt'
        have hd : zs.drop k = zs.getD k 0 :: zs.drop (k + 1) := by rw [List.drop_eq_getElem_cons hlt']; simp [List.getD, hlt']
        generalize zs.getD k 0 = p at hcx hd
        have Hd := Lib.hid hd
        clear hd hlt'
        by_cases hp : dig p = true
        · have Hstep : Hid (zs.all dig = (zs.drop (k + 1)).all dig) := by
            have : zs.all dig = (zs.drop (k + 1)).all dig := by rw [Heq.out, Hd.out, List.all_cons, hp, Bool.true_and]
            exact this
          go_wp2_with (first | (go_at_call 91; refine (l2Digit_any _ _).mono ?_; rintro e w1 ⟨rfl, rfl⟩; simp only [hp]) | go_in)
          go_round
          case rel => exact ⟨k + 1, by omega, by go_num, Hstep.out⟩
          case measure => simp [intOf]; omega
        · have hp : dig p = false := by simpa using hp
          have Hno : Hid (R = false) := by
            have : R = false := by rw [← Hg.out, rowB, Heq.out, Hd.out, List.all_cons, hp]; rfl
            exact this
          obtain rfl := Hno.out
          go_wp2_with (first | (go_at_call 91; refine (l2Digit_any _ _).mono ?_; rintro e w1 ⟨rfl, rfl⟩; simp only [hp]) | go_in)
          go_ret
          exact ⟨rfl, rfl⟩
      · have e : k = n := by omega
        have Hall : Hid (R = decide (zs.length = 6)) := by
          have : R = decide (zs.length = 6) := by rw [← Hg.out, rowB, Heq.out, e, List.drop_of_length_le (by rw [Hn.out]; exact Nat.le_refl _)]; simp
          exact this
        by_cases h6 : n = 6
        · have e6 : ((n : Int) == 6) = true := by simp [h6]
          have Hr : Hid (R = true) := by
            have : R = true := by rw [Hall.out, ← Hn.out]; simp [h6]
            exact this
          clear h6
          obtain rfl := Hr.out
          go_wp2
          go_ret
          exact ⟨rfl, rfl⟩
        · have e6 : ((n : Int) == 6) = false := by rw [beq_eq_false_iff_ne]; omega
          have Hr : Hid (R = false) := by
            have : R = false := by rw [Hall.out, ← Hn.out]; simp [h6]
            exact this
          clear h6
          obtain rfl := Hr.out
          go_wp2
          go_ret
          exact ⟨rfl, rfl⟩
end Go.Proofs.Ytompdebingllmaa
