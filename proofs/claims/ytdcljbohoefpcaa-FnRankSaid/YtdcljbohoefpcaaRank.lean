/- Contracts of the two counts of choices. No condition beyond those stated. -/
import Derived.Test.YtdcljbohoefpcaaWords2
import Derived.Test.YtdcljbohoefpcaaPlainR
namespace Go.Proofs.Ytdcljbohoefpcaa
open Go.RowKit Gol
theorem quo_any (p j : Nat) (h : p < 1000000000) : wrap64 ((p : Int) / ((j : Int) + 1)) = ((p / (j + 1) : Nat) : Int) := by
  have e : (p : Int) / ((j : Int) + 1) = ((p / (j + 1) : Nat) : Int) := by simp
  rw [e]
  have := Nat.div_le_self p (j + 1)
  generalize p / (j + 1) = q at *
  exact IntWalk.wrap64_in _ (by omega)
theorem choose_any (n k : Nat) (hn : n < 24) (hk : k ≤ 24) (W : World) :
    Calls Try.prog 62 #[.int .i64 n, .int .i64 k] W fun e W' => e = .returned (.int .i64 (bin n k)) ∧ W = W' := by
  by_cases hgt : n < k
  · have Hb := Lib.hid (bin_gt n k hgt)
    go_enter Try.func62, Try.ntmps62
    go_wp2
    go_ret
    exact ⟨ret_int (by rw [Hb.out]; rfl), rfl⟩
  · go_enter Try.func62, Try.ntmps62
    go_wp2
    go_loop [5, 11] (fun s i => ∃ j : Nat, j ≤ k ∧ i = .int .i64 j ∧ s = .int .i64 (bin n j)) (fun _ i => k - (intOf i).toNat)
    case atStart => exact ⟨0, by omega, rfl, by simp [bin]⟩
    case round =>
      obtain ⟨j, hj, rfl, rfl⟩ := hrel
      by_cases hlt : j < k
      · have st := choose_step n j hn (by omega)
        have hb0 := bin_lt n j hn (by omega)
        have hm : (bin n j : Int) * ((n : Int) - (j : Int)) = ((bin n j * (n - j) : Nat) : Int) := by rw [Int.natCast_mul]; congr 1; omega
        obtain ⟨p, hp, hp2, hp3⟩ : ∃ p : Nat, IntKind.i64.wrap ((bin n j : Int) * ((n : Int) - (j : Int))) = (p : Int) ∧ p / (j + 1) = bin n (j + 1) ∧ p < 1000000000 :=
          ⟨bin n j * (n - j), by rw [hm]; exact i64_nat _ (by omega), st.1, by omega⟩
        have Hp2 := Lib.hid hp2
        have hq := quo_any p j hp3
        clear st hm hp2 hp3
        have hpw : wrap64 ((bin n j : Int) * ((n : Int) - (j : Int))) = (p : Int) := (IntWalk.i64_left _).symm.trans hp
        go_wp2
        go_round
        case rel => exact ⟨j + 1, by omega, by go_num, by rw [← Hp2.out, ← hq]⟩
        case measure => simp [intOf]; omega
      · go_wp2
        obtain rfl : j = k := by omega
        go_ret
        exact ⟨rfl, rfl⟩
theorem l1Choose_any (n k : Nat) (hn : n < 24) (hk : k ≤ 24) (W : World) :
    Calls Try.prog 61 #[.int .i64 n, .int .i64 k] W fun e W' => e = .returned (.int .i64 (bin n k)) ∧ W = W' := by
  by_cases hgt : n < k
  · have Hb := Lib.hid (bin_gt n k hgt)
    go_enter Try.func61, Try.ntmps61
    go_wp2
    go_ret
    exact ⟨ret_int (by rw [Hb.out]; rfl), rfl⟩
  · obtain ⟨d, hd⟩ : ∃ d, d + k = n := ⟨n - k, by omega⟩
    have Hd := Lib.hid hd; clear hd
    go_enter Try.func61, Try.ntmps61
    go_wp2
    go_loop [5, 6] (fun s i => ∃ j : Nat, j ≤ k ∧ i = .int .i64 ((j + 1 : Nat) : Int) ∧ s = .int .i64 (bin (d + j) j)) (fun _ i => k + 1 - (intOf i).toNat)
    case atStart => exact ⟨0, by omega, rfl, by simp [bin]⟩
    case round =>
      obtain ⟨j, hj, rfl, rfl⟩ := hrel
      by_cases hlt : j < k
      · have hd := Hd.out
        have st := choose2_step (d + j) j (by omega) (by omega)
        have hb0 := bin_lt (d + j) j (by omega) (by omega)
        have hm : (bin (d + j) j : Int) * ((n : Int) - (k : Int) + ((j : Int) + 1)) = ((bin (d + j) j * (d + j + 1) : Nat) : Int) := by rw [Int.natCast_mul]; congr 1; omega
        obtain ⟨p, hp, hp2, hp3⟩ : ∃ p : Nat, IntKind.i64.wrap ((bin (d + j) j : Int) * ((n : Int) - (k : Int) + ((j : Int) + 1))) = (p : Int) ∧ p / (j + 1) = bin (d + (j + 1)) (j + 1) ∧ p < 1000000000 :=
          ⟨bin (d + j) j * (d + j + 1), by rw [hm]; exact i64_nat _ (by omega), st.1, by omega⟩
        have Hp2 := Lib.hid hp2
        have hq := quo_any p j hp3
        clear st hm hp2 hd hp3
        have hpw : wrap64 ((bin (d + j) j : Int) * ((n : Int) - (k : Int) + ((j : Int) + 1))) = (p : Int) := (IntWalk.i64_left _).symm.trans hp
        generalize bin (d + j) j = b at *
        go_wp2
        go_round
        case rel => exact ⟨j + 1, by omega, by go_num, by rw [← Hp2.out, ← hq]⟩
        case measure => simp [intOf]; omega
      · go_wp2
        obtain rfl : j = k := by omega
        go_ret
        exact ⟨ret_int (by rw [Hd.out]), rfl⟩
theorem choose_int (n k : Int) (n0 : 0 ≤ n) (n1 : n < 24) (k0 : 0 ≤ k) (k1 : k ≤ 24) (W : World) :
    Calls Try.prog 62 #[.int .i64 n, .int .i64 k] W fun e W' => e = .returned (.int .i64 (bin n.toNat k.toNat)) ∧ W = W' := by
  obtain ⟨a, rfl⟩ := Int.eq_ofNat_of_zero_le n0
  obtain ⟨b, rfl⟩ := Int.eq_ofNat_of_zero_le k0
  exact choose_any a b (by omega) (by omega) W
theorem l1Choose_int (n k : Int) (n0 : 0 ≤ n) (n1 : n < 24) (k0 : 0 ≤ k) (k1 : k ≤ 24) (W : World) :
    Calls Try.prog 61 #[.int .i64 n, .int .i64 k] W fun e W' => e = .returned (.int .i64 (bin n.toNat k.toNat)) ∧ W = W' := by
  obtain ⟨a, rfl⟩ := Int.eq_ofNat_of_zero_le n0
  obtain ⟨b, rfl⟩ := Int.eq_ofNat_of_zero_le k0
  exact l1Choose_any a b (by omega) (by omega) W
theorem places_at (n j : Nat) (hj : j < (places n).length) : (intsOf (places n)).getD j 0 = (((places n)[j] : Nat) : Int) ∧ (places n)[j] < 24 ∧ j < 24 ∧ (places n).length ≤ 24 := by
  have hlen : (places n).length ≤ 24 := by unfold places; rw [plN_length]; exact pcN_le 24 n
  refine ⟨by simp [intsOf, List.getD, hj], plN_lt 24 n _ (List.getElem_mem hj), by omega, hlen⟩
/-- what the two walks over the list of places share -/
theorem rank_step (n j : Nat) (hj : j < (places n).length) : rkL ((places n).take (j + 1)) 0 = rkL ((places n).take j) 0 + bin ((places n)[j]) (j + 1) := rkL_take _ _ hj
theorem rkL_lt (l : List Nat) (h : ∀ p ∈ l, p < 24) : ∀ i, i + l.length ≤ 24 → rkL l i ≤ l.length * 1352079 := by
  induction l with
  | nil => intro i _; simp [rkL]
  | cons p ps ih =>
    intro i hi
    simp only [List.length_cons] at hi
    have := ih (fun q hq => h q (by simp [hq])) (i + 1) (by omega)
    have := bin_lt p (i + 1) (h p (by simp)) (by omega)
    simp only [rkL, List.length_cons]
    omega
theorem rank_lt (n j : Nat) (hj : j ≤ 24) : rkL ((places n).take j) 0 < 100000000 := by
  have hlen : (places n).length ≤ 24 := by unfold places; rw [plN_length]; exact pcN_le 24 n
  have h := rkL_lt ((places n).take j) (fun p hp => plN_lt 24 n p (List.mem_of_mem_take hp)) 0 (by rw [List.length_take]; omega)
  rw [List.length_take] at h
  have : min j (places n).length * 1352079 ≤ 24 * 1352079 := Nat.mul_le_mul_right _ (by omega)
  omega
theorem rank_at (n j : Nat) (hj : j < (places n).length) :
    ∃ p : Nat, (intsOf (places n)).getD j 0 = (p : Int) ∧ p < 24 ∧ j < 24 ∧ rkL ((places n).take (j + 1)) 0 = rkL ((places n).take j) 0 + bin p (j + 1) ∧ rkL ((places n).take j) 0 < 100000000 ∧ bin p (j + 1) < 1352079 := by
  obtain ⟨h1, h2, h3, _⟩ := places_at n j hj
  exact ⟨_, h1, h2, h3, rank_step n j hj, rank_lt n j (by omega), bin_lt _ _ h2 (by omega)⟩
theorem ret_ok {a b : Nat} {k : IntKind} {c : Bool} (h : a = b) : Ending.returned (.tuple #[.int k (a : Int), .bool c]) = .returned (.tuple #[.int k (b : Int), .bool c]) := by rw [h]
theorem rank_full (n : Nat) : rkL ((places n).take (places n).length) 0 = rank n := by rw [List.take_length]; exact rkL_plN 24 n
def RankIs (B : Nat) (w : Int) (W : World) (e : Ending) (W' : World) : Prop := e = .returned (.tuple #[.int .i64 (rank w.toNat), .bool true]) ∧ Below B W W'
set_option maxHeartbeats 400000 in
theorem implRank_yes (w : Int) (hw : IsW w) (W : World) :
    Calls Try.prog 40 #[.int .i64 w] W (RankIs W.heap.size w W) := by
  obtain ⟨n, rfl, hn⟩ := hw.of
  have Hw := Lib.hid hw
  have h0 : (0 : Int) ≤ n := by omega
  have h1 : (n : Int) ≤ 16777215 := by omega
  clear hn hw
  go_enter Try.func40, Try.ntmps40
  go_wp2_with (first | (go_at_call 58; refine (placesOf_any _ Hw.out _).mono ?_; rintro e w1 ⟨a, cap, rfl, hown, hbel⟩) | go_in)
  rw [intsOf_length] at *
  simp only [Int.toNat_natCast] at *
  have Hown := Lib.hid hown; clear hown h0 h1
  go_loopw [4, 5, 6, 13] (fun s k p i wr => ∃ j : Nat, j ≤ (places n).length ∧ i = .int .i64 j ∧ s = .int .i64 (rkL ((places n).take j) 0) ∧ wr = w1) (fun _ _ _ i _ => (places n).length - (intOf i).toNat)
  case atStart => exact ⟨0, by omega, rfl, rfl, rfl⟩
  case round =>
    obtain ⟨j, hj, rfl, rfl, rfl⟩ := hrel
    by_cases hlt : j < (places n).length
    · obtain ⟨g, rfl, _, _, hc⟩ := Hown.out.head (by rw [intsOf_length]; omega)
      obtain ⟨p, hval, hp24, hj24, hst, hr0, hbb⟩ := rank_at n j hlt
      have hcj := hc j (by rw [intsOf_length]; omega)
      rw [hval] at hcj
      have Hst := Lib.hid hst
      clear hc hval hst
      have et : ((j : Int) + 1).toNat = j + 1 := by omega
      go_wp2_with (go_at_call 62; refine (choose_int _ _ (by omega) (by omega) (by omega) (by omega) _).mono ?_; rintro e w' ⟨rfl, rfl⟩; simp only [Int.toNat_natCast, et])
      go_roundw
      case rel => exact ⟨j + 1, by omega, by go_num, by rw [Hst.out]; go_num, trivial⟩
      case measure => simp [intOf]; omega
    · go_wp2
      have e : j = (places n).length := by omega
      have e2 : rkL ((places n).take j) 0 = rank n := by rw [e]; exact rank_full n
      go_ret2
      exact ⟨ret_ok e2, hbel⟩
set_option maxHeartbeats 400000 in
theorem specRank_yes (w : Int) (hw : IsW w) (W : World) :
    Calls Try.prog 39 #[.int .i64 w] W (RankIs W.heap.size w W) := by
  obtain ⟨n, rfl, hn⟩ := hw.of
  have Hw := Lib.hid hw
  have h0 : (0 : Int) ≤ n := by omega
  have h1 : (n : Int) ≤ 16777215 := by omega
  clear hn hw
  go_enter Try.func39, Try.ntmps39
  go_wp2_with (first | (go_at_call 57; refine (l1Places_any _ Hw.out _).mono ?_; rintro e w1 ⟨a, cap, rfl, hown, hbel⟩) | go_in)
  rw [intsOf_length] at *
  simp only [Int.toNat_natCast] at *
  have Hown := Lib.hid hown; clear hown h0 h1
  go_loopw [5, 6] (fun s i wr => ∃ j : Nat, j ≤ (places n).length ∧ i = .int .i64 j ∧ s = .int .i64 (rkL ((places n).take j) 0) ∧ wr = w1) (fun _ i _ => (places n).length - (intOf i).toNat)
  case atStart => exact ⟨0, by omega, rfl, rfl, rfl⟩
  case round =>
    obtain ⟨j, hj, rfl, rfl, rfl⟩ := hrel
    by_cases hlt : j < (places n).length
    · obtain ⟨g, rfl, _, _, hc⟩ := Hown.out.head (by rw [intsOf_length]; omega)
      obtain ⟨p, hval, hp24, hj24, hst, hr0, hbb⟩ := rank_at n j hlt
      have hcj := hc j (by rw [intsOf_length]; omega)
      rw [hval] at hcj
      have Hst := Lib.hid hst
      clear hc hval hst
      have et : ((j : Int) + 1).toNat = j + 1 := by omega
      go_wp2_with (go_at_call 61; refine (l1Choose_int _ _ (by omega) (by omega) (by omega) (by omega) _).mono ?_; rintro e w' ⟨rfl, rfl⟩; simp only [Int.toNat_natCast, et])
      go_roundw
      case rel => exact ⟨j + 1, by omega, by go_num, by rw [Hst.out]; go_num, trivial⟩
      case measure => simp [intOf]; omega
    · go_wp2
      have e : j = (places n).length := by omega
      have e2 : rkL ((places n).take j) 0 = rank n := by rw [e]; exact rank_full n
      go_ret2
      exact ⟨ret_ok e2, hbel⟩
def RankR (r : Nat) (W : World) (e : Ending) (W' : World) : Prop := e = .returned (.tuple #[.int .i64 r, .bool true]) ∧ Below W.heap.size W W'
theorem rank_small (n : Nat) : rank n < 100000000 := by
  have h := rank_lt n (places n).length (by unfold places; rw [plN_length]; exact pcN_le 24 n)
  rwa [rank_full] at h
theorem rank_all (n : Nat) (hw : IsW n) : ∃ r : Nat, r = rank n ∧ r < 100000000 ∧ Hid (∀ W, Calls Try.prog 40 #[.int .i64 n] W (RankR r W)) ∧ Hid (∀ W, Calls Try.prog 39 #[.int .i64 n] W (RankR r W)) := by
  have e : (n : Int).toNat = n := Int.toNat_natCast n
  refine ⟨rank n, rfl, rank_small n, ?_, ?_⟩
  · refine Lib.hid fun W => ?_
    have h := implRank_yes (n : Int) hw W
    unfold RankIs at h
    rw [e] at h
    exact h
  · refine Lib.hid fun W => ?_
    have h := specRank_yes (n : Int) hw W
    unfold RankIs at h
    rw [e] at h
    exact h
theorem and_neg (n : Nat) (h0 : 0 < n) (hn : n < 16777216) : bits .and .i64 (n : Int) (-(n : Int)) = ((n &&& (2 ^ 64 - n) : Nat) : Int) := by
  show IntKind.i64.wrap ((BitVec.ofInt 64 (n : Int) &&& BitVec.ofInt 64 (-(n : Int))).toNat : Int) = _
  have e : (BitVec.ofInt 64 (-(n : Int))).toNat = 2 ^ 64 - n := by rw [BitVec.toNat_ofInt]; omega
  rw [BitVec.toNat_and, ofInt64 n (by omega), e]
  exact i64_nat _ (Nat.lt_of_le_of_lt Nat.and_le_left (by omega))
theorem rank_next (n : Nat) (hn : n < 16777216) (h0 : n ≠ 0) : ∃ l : Nat, 1 ≤ l ∧ l ≤ n ∧ bits .and .i64 (n : Int) (-(n : Int)) = (l : Int) ∧
    (n + l < 16777216 → ∃ X Y r u : Nat, bits .xor .i64 (n : Int) ((n : Int) + (l : Int)) = (X : Int) ∧ (X : Int) / (l : Int) = (Y : Int) ∧ (Y : Int) / 4 = (r : Int) ∧ bits .or .i64 ((n : Int) + (l : Int)) (r : Int) = (u : Int) ∧
      u < 16777216 ∧ rank u = rank n + 1 ∧ X < 16777216 ∧ Y < 16777216) := by
  obtain ⟨m, k, h, hk, e⟩ := run_any n h0
  have pm : 0 < 2 ^ m := Nat.two_pow_pos m
  have pk : 0 < 2 ^ k := Nat.two_pow_pos k
  have hodd : (2 ^ k - 1 + 2 ^ (k + 1) * h) % 2 = 1 := by
    obtain ⟨j, rfl⟩ : ∃ j, k = j + 1 := ⟨k - 1, by omega⟩
    have e1 : 2 ^ (j + 1) = 2 * 2 ^ j := by rw [Nat.pow_succ]; omega
    have e2 : 2 ^ (j + 1 + 1) * h = 2 * (2 ^ (j + 1) * h) := by rw [Nat.pow_succ 2 (j + 1), Nat.mul_comm (2 ^ (j + 1)) 2, Nat.mul_assoc]
    have := Nat.two_pow_pos j
    omega
  have hle : 2 ^ m ≤ n := by rw [e]; exact Nat.le_mul_of_pos_right _ (by omega)
  refine ⟨2 ^ m, pm, hle, ?_, fun hup => ?_⟩
  · rw [and_neg n (by omega) hn]
    congr 1
    rw [e]
    exact low_and m _ hodd (by rw [← e]; omega)
  · have g := gosper m k h hk (by rw [← e]; exact hup)
    simp only [← e] at g
    obtain ⟨g1, g2, g3⟩ := g
    have hr : 2 ^ (k - 1) - 1 < 16777216 := by
      have hle2 : n + 2 ^ m ||| (2 ^ (k - 1) - 1) < 16777216 := g2
      exact Nat.lt_of_le_of_lt Nat.right_le_or hle2
    have hX : n ^^^ (n + 2 ^ m) < 16777216 := xor_lt24 hn hup
    refine ⟨n ^^^ (n + 2 ^ m), (n ^^^ (n + 2 ^ m)) / 2 ^ m, 2 ^ (k - 1) - 1, n + 2 ^ m ||| (2 ^ (k - 1) - 1), ?_, by simp, ?_, ?_, g2, g3, hX, Nat.lt_of_le_of_lt (Nat.div_le_self _ _) hX⟩
    · have := i64_xor n (n + 2 ^ m) (by omega) (by omega)
      rwa [Int.natCast_add] at this
    · rw [← g1]; simp
    · have := i64_or (n + 2 ^ m) (2 ^ (k - 1) - 1) (by omega) (by omega)
      rwa [Int.natCast_add] at this
end Go.Proofs.Ytdcljbohoefpcaa
