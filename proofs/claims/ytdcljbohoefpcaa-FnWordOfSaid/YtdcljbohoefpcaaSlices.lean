/- Contracts of the helpers of the laws: comparing, marking, holding and copying lists. No condition beyond those stated. -/
import Derived.Test.YtdcljbohoefpcaaOwn
import Derived.Deep.QuietTactic
import Derived.BigQuiet
import Derived.WalkMore
namespace Go.Proofs.Ytdcljbohoefpcaa
open Go.RowKit Gol
set_option maxHeartbeats 400000 in
theorem eqIntS_any (va vb : Value) (za zb : List Int) (W : World) (ha : Rd W va za) (hb : Rd W vb zb) (hla : za.length ≤ 1000000000000) (hlb : zb.length ≤ 1000000000000) :
    Calls Try.prog 32 #[va, vb] W fun e W' => e = .returned (.bool (eqL za zb)) ∧ Below W.heap.size W W' := by
  have Hla := Lib.hid hla; clear hla
  have Hlb := Lib.hid hlb; clear hlb
  obtain ⟨aa, ca, ea, hca⟩ : ∃ aa ca, va = .slice aa za.length ca ∧ (za.length ≠ 0 → ∃ b off, aa = some ⟨b, off, none⟩ ∧ b < W.heap.size ∧ ∀ j, j < za.length → W.cell? ⟨b, off + j, none⟩ = some (.int .i64 (za.getD j 0))) := by
    rcases ha with ⟨rfl, a, cap, rfl⟩ | ⟨b, off, cap, rfl, h1, h2⟩
    · exact ⟨a, cap, rfl, fun h => absurd rfl h⟩
    · exact ⟨_, cap, rfl, fun _ => ⟨b, off, rfl, h1, h2⟩⟩
  obtain ⟨ab, cb, eb, hcb⟩ : ∃ aa ca, vb = .slice aa zb.length ca ∧ (zb.length ≠ 0 → ∃ b off, aa = some ⟨b, off, none⟩ ∧ b < W.heap.size ∧ ∀ j, j < zb.length → W.cell? ⟨b, off + j, none⟩ = some (.int .i64 (zb.getD j 0))) := by
    rcases hb with ⟨rfl, a, cap, rfl⟩ | ⟨b, off, cap, rfl, h1, h2⟩
    · exact ⟨a, cap, rfl, fun h => absurd rfl h⟩
    · exact ⟨_, cap, rfl, fun _ => ⟨b, off, rfl, h1, h2⟩⟩
  subst ea eb
  clear ha hb
  by_cases hl : za.length = zb.length
  · by_cases h0 : za.length = 0
    · have e1 : za = [] := List.length_eq_zero_iff.1 h0
      have e2 : zb = [] := List.length_eq_zero_iff.1 (by omega)
      subst e1 e2
      clear hca hcb hl h0
      go_enter Try.func32, Try.ntmps32
      go_wp2
      refine wp_loop_rounds 1 ?_; rw [rounds_succ]
      go_wp2
      go_ret
      exact ⟨rfl, Below.refl _ _⟩
    · obtain ⟨b1, o1, rfl, hb1, hc1⟩ := hca h0
      obtain ⟨b2, o2, rfl, hb2, hc2⟩ := hcb (by omega)
      have Hc1 := Lib.hid hc1; have Hc2 := Lib.hid hc2
      clear hc1 hc2 hca hcb h0
      have hne : ((za.length : Int) == (zb.length : Int)) = true := by rw [beq_iff_eq]; omega
      have hne' : ((za.length : Int) != (zb.length : Int)) = false := by simp [hl]
      have Hl := Lib.hid hl; clear hl
      go_enter Try.func32, Try.ntmps32
      go_wp2
      go_loopw [5] (fun i wr => ∃ k : Nat, k ≤ za.length ∧ i = .int .i64 k ∧ za.take k = zb.take k ∧ Below W.heap.size W wr) (fun i _ => za.length - (intOf i).toNat)
      case atStart => exact ⟨0, by omega, rfl, rfl, Below.refl _ _⟩
      case round =>
        obtain ⟨k, hk, rfl, htake, hbel⟩ := hrel
        have Ht := Lib.hid htake; clear htake
        by_cases hlt : k < za.length
        · have hlt2 : k < zb.length := by have := Hl.out; omega
          have i1 : (k : Int) < (za.length : Int) := by omega
          have i3 : (k : Int) < 9223372036854775807 := by have := Hla.out; omega
          have i2 : (k : Int) < (zb.length : Int) := by omega
          have c1 := (hbel.cell (p := ⟨b1, o1 + k, none⟩) hb1).trans (Hc1.out k hlt)
          have c2 := (hbel.cell (p := ⟨b2, o2 + k, none⟩) hb2).trans (Hc2.out k hlt2)
          have hs : ∀ x y, za.getD k 0 = x → zb.getD k 0 = y → (x = y → za.take (k + 1) = zb.take (k + 1)) ∧ (x ≠ y → eqL za zb = false) := by
            intro x y hx hy
            rw [List.take_succ_eq_append_getElem hlt, List.take_succ_eq_append_getElem hlt2, Ht.out]
            simp only [List.getD, List.getElem?_eq_getElem hlt, List.getElem?_eq_getElem hlt2, Option.getD_some] at hx hy
            refine ⟨fun e => by rw [hx, hy, e], fun e => ?_⟩
            simp only [eqL, decide_eq_false_iff_not]
            intro h
            subst h
            exact e (hx.symm.trans hy)
          generalize hx : za.getD k 0 = x at c1
          generalize hy : zb.getD k 0 = y at c2
          obtain ⟨s1, s2⟩ := hs x y hx hy
          have S1 := Lib.hid s1; have S2 := Lib.hid s2
          clear s1 s2 hs hx hy
          by_cases he : x = y
          · have hb : (x != y) = false := by simp [he]
            have S := Lib.hid (S1.out he)
            clear S1 S2 he
            go_wp2
            go_quiet (fail)
            go_wp2
            go_roundw
            case rel => exact ⟨k + 1, by omega, by go_num, S.out, below_drewN hbel _⟩
            case measure => simp [intOf]; omega
          · have hb : (x != y) = true := by simp [he]
            have S := Lib.hid (S2.out he)
            clear S1 S2 he
            go_wp2
            go_quiet (fail)
            go_wp2
            go_ret
            refine ⟨?_, ?_⟩
            · rw [S.out]; rfl
            · exact below_drewN hbel _
        · go_wp2
          go_ret
          refine ⟨?_, hbel⟩
          have : eqL za zb = true := by
            have h := Ht.out
            have hl := Hl.out
            rw [List.take_of_length_le (by omega), List.take_of_length_le (by omega)] at h
            simp [eqL, h]
          rw [this]; rfl
  · clear hca hcb
    have hne : ((za.length : Int) == (zb.length : Int)) = false := by rw [beq_eq_false_iff_ne]; omega
    have hne' : ((za.length : Int) != (zb.length : Int)) = true := by simp; omega
    have Hl := Lib.hid hl; clear hl
    go_enter Try.func32, Try.ntmps32
    go_wp2
    go_ret
    refine ⟨?_, Below.refl _ _⟩
    have : eqL za zb = false := by
      have h := Hl.out
      simp only [eqL, decide_eq_false_iff_not]
      intro e; exact h (by rw [e])
    rw [this]; rfl
/-- k, k + 1, .. -/
def marks (n k : Nat) : List Int := (List.range n).map fun j => ((k + j : Nat) : Int)
theorem marks_length (n k : Nat) : (marks n k).length = n := by simp [marks]
theorem marks_getD (n k j : Nat) (h : j < n) : (marks n k).getD j 0 = ((k + j : Nat) : Int) := by simp [marks, List.getD, h]
theorem marks_set (n k j : Nat) (zs : List Int) (hz : zs.length = n) (h : j < n) : (marks j k ++ zs.drop j).set j ((k + j : Nat) : Int) = marks (j + 1) k ++ zs.drop (j + 1) := by
  have e : zs.drop j = zs[j] :: zs.drop (j + 1) := List.drop_eq_getElem_cons (by omega)
  rw [List.set_append_right _ _ (by rw [marks_length]; exact Nat.le_refl _), marks_length, Nat.sub_self, e, List.set_cons_zero]
  simp [marks, List.range_succ]
theorem Owns.set {w : World} {B : Nat} {g n cap : Nat} {zs : List Int} (h : Owns w B (.slice (some ⟨g, 0, none⟩) n cap) zs) (hn : zs.length = n) (j : Nat) (x : Int) :
    Owns (w.setCell ⟨g, j, none⟩ (.int .i64 x)) B (.slice (some ⟨g, 0, none⟩) n cap) (zs.set j x) ∧ w.grownBy (w.setCell ⟨g, j, none⟩ (.int .i64 x)) (some g) := by
  subst hn
  have := World.ownsRow.stored h j (.int .i64 x)
  refine ⟨?_, this.2⟩
  unfold Owns
  rw [List.length_set, List.map_set]
  exact this.1
theorem Owns.at {w : World} {B : Nat} {g cap : Nat} {zs : List Int} {n : Nat} (h : Owns w B (.slice (some ⟨g, 0, none⟩) n cap) zs) (j : Nat) (hj : j < zs.length) :
    w.cell? ⟨g, j, none⟩ = some (.int .i64 (zs.getD j 0)) ∧ w.frozen? ⟨g, j, none⟩ = false := by
  rcases h.shape with ⟨e, _⟩ | ⟨g', cap', cur, e, _, _, hg, _, _, _, h4⟩
  · simp at e
  · simp only [Value.slice.injEq, Option.some.injEq, Addr.mk.injEq, and_true] at e
    obtain ⟨rfl, rfl, rfl⟩ := e
    refine ⟨?_, frozen_of_row w g j cur 3 hg⟩
    rw [cell_of_row w g j cur 3 (0, 0) hg]
    have e : (cur.toList.take zs.length)[j]? = some (.int .i64 (zs.getD j 0)) := by
      rw [h4, List.getElem?_map, List.getElem?_eq_getElem hj]
      simp [List.getD, hj]
    rw [List.getElem?_take, if_pos hj] at e
    simpa using e
def Marked (B : Nat) (v : Value) (n k : Nat) (w : World) (e : Ending) (w' : World) : Prop := e = .returned (.int .i64 ((k + n : Nat) : Int)) ∧ Owns w' B v (marks n k) ∧ w.grownBy w' v.ownBlock
set_option maxHeartbeats 400000 in
theorem mark_any (v : Value) (zs : List Int) (k B : Nat) (W : World) (ho : Owns W B v zs) (hl : zs.length ≤ 1000000000000) (hk : k ≤ 1000000000000) :
    Calls Try.prog 35 #[v, .int .i64 k] W (Marked B v zs.length k W) := by
  have Hl := Lib.hid hl; clear hl
  have Hk := Lib.hid hk; clear hk
  rcases ho.shape with ⟨rfl, rfl⟩ | ⟨g, cap, cur, rfl, _, _, _, hcap, _⟩
  · go_enter Try.func35, Try.ntmps35
    go_wp2
    refine wp_loop_rounds 1 ?_; rw [rounds_succ]
    go_wp2
    go_ret
    exact ⟨rfl, ho, grownBy_refl _ _⟩
  · generalize hn : zs.length = n at *
    have Hn := Lib.hid hn; clear hn
    have Ho := Lib.hid ho; clear ho
    go_enter Try.func35, Try.ntmps35
    go_wp2
    go_loopw [1, 5] (fun s i wr => ∃ j : Nat, j ≤ n ∧ i = .int .i64 j ∧ s = .int .i64 ((k + j : Nat) : Int) ∧ Owns wr B (.slice (some ⟨g, 0, none⟩) n cap) (marks j k ++ zs.drop j) ∧ W.grownBy wr (some g)) (fun _ i _ => n - (intOf i).toNat)
    case atStart => exact ⟨0, by omega, rfl, rfl, by simpa [marks] using Ho.out, grownBy_refl _ _⟩
    case round =>
      obtain ⟨j, hj, rfl, rfl, hown, hgr⟩ := hrel
      by_cases hlt : j < n
      · have hlen : (marks j k ++ zs.drop j).length = n := by rw [List.length_append, marks_length, List.length_drop, Hn.out]; omega
        have hst := hown.set hlen j ((k + j : Nat) : Int)
        rw [marks_set n k j zs Hn.out hlt] at hst
        have hc := hown.at j (by omega)
        have i1 : (j : Int) < (n : Int) := by omega
        have i3 : (j : Int) < 9223372036854775807 := by have := Hl.out; omega
        have i4 : (k : Int) + (j : Int) < 9223372036854775807 := by have := Hl.out; have := Hk.out; omega
        obtain ⟨hc1, hc2⟩ := hc
        obtain ⟨hs1, hs2⟩ := hst
        have Hs1 := Lib.hid hs1; have Hs2 := Lib.hid hs2
        clear hs1 hs2 hlen hown
        go_wp2
        go_roundw
        case rel => exact ⟨j + 1, by omega, by go_num, by go_num, Hs1.out, grownBy_trans hgr Hs2.out⟩
        case measure => simp [intOf]; omega
      · go_wp2
        obtain rfl : j = n := by omega
        go_ret
        refine ⟨rfl, ?_, hgr⟩
        have := hown
        rwa [List.drop_of_length_le (by rw [Hn.out]; exact Nat.le_refl _), List.append_nil] at this
set_option maxHeartbeats 400000 in
theorem held_yes (v : Value) (n k : Nat) (W : World) (hr : Rd W v (marks n k)) (hl : n ≤ 1000000000000) (hk : k ≤ 1000000000000) :
    Calls Try.prog 36 #[v, .int .i64 k] W fun e W' => e = .returned (.int .i64 ((k + n : Nat) : Int)) ∧ W = W' := by
  have Hl := Lib.hid hl; clear hl
  have Hk := Lib.hid hk; clear hk
  rcases hr with ⟨h0, a, cap, rfl⟩ | ⟨b, off, cap, rfl, hb, hc⟩
  · have h0 : n = 0 := by have := congrArg List.length h0; rwa [marks_length] at this
    subst h0
    go_enter Try.func36, Try.ntmps36
    go_wp2
    refine wp_loop_rounds 1 ?_; rw [rounds_succ]
    go_wp2
    go_ret
    exact ⟨rfl, rfl⟩
  · rw [marks_length] at hc ⊢
    have Hc := Lib.hid hc; clear hc
    go_enter Try.func36, Try.ntmps36
    go_wp2
    go_loop [1, 5] (fun s i => ∃ j : Nat, j ≤ n ∧ i = .int .i64 j ∧ s = .int .i64 ((k + j : Nat) : Int)) (fun _ i => n - (intOf i).toNat)
    case atStart => exact ⟨0, by omega, rfl, rfl⟩
    case round =>
      obtain ⟨j, hj, rfl, rfl⟩ := hrel
      by_cases hlt : j < n
      · have hc1 := Hc.out j hlt
        rw [marks_getD n k j hlt] at hc1
        have i1 : (j : Int) < (n : Int) := by omega
        have i3 : (j : Int) < 9223372036854775807 := by have := Hl.out; omega
        have i4 : (k : Int) + (j : Int) < 9223372036854775807 := by have := Hl.out; have := Hk.out; omega
        go_wp2
        go_round
        case rel => exact ⟨j + 1, by omega, by go_num, by go_num⟩
        case measure => simp [intOf]; omega
      · go_wp2
        obtain rfl : j = n := by omega
        go_ret
        exact ⟨rfl, rfl⟩
theorem copy_set (zs : List Int) (j n : Nat) (hz : zs.length = n) (h : j < n) : (zs.take j ++ List.replicate (n - j) 0).set j (zs.getD j 0) = zs.take (j + 1) ++ List.replicate (n - (j + 1)) 0 := by
  have e : List.replicate (n - j) (0 : Int) = 0 :: List.replicate (n - (j + 1)) 0 := by rw [show n - j = (n - (j + 1)) + 1 by omega, List.replicate_succ]
  rw [List.set_append_right _ _ (by rw [List.length_take]; omega), List.length_take, Nat.min_eq_left (by omega), Nat.sub_self, e, List.set_cons_zero]
  have t : zs.take (j + 1) = zs.take j ++ [zs[j]] := List.take_succ_eq_append_getElem (by omega)
  rw [t, List.append_assoc]
  simp only [List.getD, List.getElem?_eq_getElem (show j < zs.length by omega), Option.getD_some, List.cons_append, List.nil_append]
theorem Owns.zeros {w : World} {B : Nat} {v : Value} {n : Nat} (h : w.ownsRow B 3 1 v n (madeCells (Value.int .i64 0).cells (n * 1)).toList) : Owns w B v (List.replicate n 0) := by
  unfold Owns
  rw [List.length_replicate, List.map_replicate]
  have e : (madeCells (Value.int .i64 0).cells (n * 1)).toList = List.replicate n (Value.int .i64 0) := by rw [Nat.mul_one]; exact toList_madeCells_one _ _
  rw [e] at h
  exact h
set_option maxHeartbeats 400000 in
theorem toInt_any (v : Value) (zs : List Int) (W : World) (hr : Rd W v zs) (hl : zs.length ≤ 1048576) :
    Calls Try.prog 30 #[v] W (RetOwns W.heap.size zs W) := by
  obtain ⟨i0, hi, hz0, hz1, hz2⟩ := info_parts infoInt
  have Hl := Lib.hid hl; clear hl
  rcases hr with ⟨rfl, a, cap, rfl⟩ | ⟨b, off, cap, rfl, hb, hc⟩
  · go_enter Try.func30, Try.ntmps30
    go_wp2_with (at_make; refine wpList_make_full _ rfl _ _ 27 rfl W.heap.size 3 i0 (.int .i64 0) 1 Try.underlying27 hi hz0 hz1 .i64 .i64 _ _ 0 (by rfl) (by rfl) rfl rfl (by rw [hz2]; omega) (by unfold maxLen; omega) (Nat.le_refl _) ?_; intro w1 hown1 hgr1)
    refine wp_loop_rounds 1 ?_; rw [rounds_succ]
    go_wp2
    go_ret
    exact RetOwns.mk (Owns.zeros hown1) ((Below.refl _ _).grown hgr1 (Nat.le_refl _) (fun k hk => by cases hk))
  · generalize hn : zs.length = n at *
    have Hn := Lib.hid hn; clear hn
    have Hc := Lib.hid hc; clear hc
    go_enter Try.func30, Try.ntmps30
    go_wp2_with (at_make; refine wpList_make_full _ rfl _ _ 27 rfl W.heap.size 3 i0 (.int .i64 0) 1 Try.underlying27 hi hz0 hz1 .i64 .i64 _ _ n (by rfl) (by rfl) rfl rfl (by rw [hz2]; have := Hl.out; omega) (by have := Hl.out; unfold maxLen; omega) (Nat.le_refl _) ?_; intro w1 hown1 hgr1)
    have hbel1 : Below W.heap.size W w1 := (Below.refl _ _).grown hgr1 (Nat.le_refl _) (fun k hk => by cases hk)
    have Hown1 := Lib.hid (Owns.zeros hown1); clear hown1 hgr1
    go_loopw [4] (fun i wr => ∃ j : Nat, j ≤ n ∧ i = .int .i64 j ∧ Owns wr W.heap.size (.slice (some ⟨W.heap.size, 0, none⟩) n n) (zs.take j ++ List.replicate (n - j) 0) ∧ Below W.heap.size W wr) (fun i _ => n - (intOf i).toNat)
    case atStart => exact ⟨0, by omega, rfl, by simpa using Hown1.out, hbel1⟩
    case round =>
      obtain ⟨j, hj, rfl, hown, hbel⟩ := hrel
      by_cases hlt : j < n
      · have hlen : (zs.take j ++ List.replicate (n - j) (0 : Int)).length = n := by have := Hn.out; rw [List.length_append, List.length_take, List.length_replicate]; omega
        have hst := hown.set hlen j (zs.getD j 0)
        rw [copy_set zs j n Hn.out hlt] at hst
        have hcx := (hbel.cell (p := ⟨b, off + j, none⟩) hb).trans (Hc.out j hlt)
        obtain ⟨hc1, hc2⟩ := hown.at j (by omega)
        have i1 : (j : Int) < (n : Int) := by omega
        have i3 : (j : Int) < 9223372036854775807 := by have := Hl.out; omega
        obtain ⟨hs1, hs2⟩ := hst
        have hbel2 : Below W.heap.size W (wr.setCell ⟨W.heap.size, j, none⟩ (.int .i64 (zs.getD j 0))) := hbel.setCell (Nat.le_refl _) _
        generalize hy : zs.getD j 0 = y at hcx hs1 hbel2
        have Hs1 := Lib.hid hs1; have Hb2 := Lib.hid hbel2
        clear hs1 hs2 hlen hown hbel2 hy
        go_wp2
        go_roundw
        case rel => exact ⟨j + 1, by omega, by go_num, Hs1.out, Hb2.out⟩
        case measure => simp [intOf]; omega
      · go_wp2
        obtain rfl : j = n := by omega
        go_ret
        refine RetOwns.mk ?_ hbel
        have := hown
        rw [List.take_of_length_le (by rw [Hn.out]; exact Nat.le_refl _), Nat.sub_self, List.replicate_zero, List.append_nil] at this
        exact this
def MarkedI (B : Nat) (v : Value) (n : Nat) (k : Int) (w : World) (e : Ending) (w' : World) : Prop := e = .returned (.int .i64 (k + (n : Int))) ∧ Owns w' B v (marks n k.toNat) ∧ w.grownBy w' v.ownBlock
theorem markI (v : Value) (zs : List Int) (k : Int) (B : Nat) (W : World) (ho : Owns W B v zs) (hl : zs.length ≤ 1000000000000) (k0 : 0 ≤ k) (k1 : k ≤ 1000000000000) :
    Calls Try.prog 35 #[v, .int .i64 k] W (MarkedI B v zs.length k W) := by
  obtain ⟨n, rfl⟩ := Int.eq_ofNat_of_zero_le k0
  exact (mark_any v zs n B W ho hl (by omega)).mono fun e w' ⟨h1, h2, h3⟩ => ⟨h1, h2, h3⟩
theorem heldI (v : Value) (n : Nat) (k : Int) (W : World) (hr : Rd W v (marks n k.toNat)) (hl : n ≤ 1000000000000) (k0 : 0 ≤ k) (k1 : k ≤ 1000000000000) :
    Calls Try.prog 36 #[v, .int .i64 k] W fun e W' => e = .returned (.int .i64 (k + (n : Int))) ∧ W = W' := by
  obtain ⟨m, rfl⟩ := Int.eq_ofNat_of_zero_le k0
  exact held_yes v n m W hr hl (by omega)
theorem eqSame (va vb : Value) (zs : List Int) (W : World) (ha : Rd W va zs) (hb : Rd W vb zs) (hl : zs.length ≤ 1000000000000) :
    Calls Try.prog 32 #[va, vb] W fun e W' => e = .returned (.bool true) ∧ Below W.heap.size W W' := by
  refine (eqIntS_any va vb zs zs W ha hb hl hl).mono fun e w' h => ?_
  rwa [eqL_self] at h
/-- what is not in the row that is written stays -/
theorem Owns.other {w w' : World} {B : Nat} {v u : Value} {zs : List Int} (h : Owns w B v zs) (hg : w.grownBy w' u.ownBlock) (hne : ∀ k, v.ownBlock = some k → u.ownBlock ≠ some k) : Owns w' B v zs :=
  World.ownsRow.kept h hg (by
    cases hv : v.ownBlock with
    | none => exact .inl rfl
    | some k => exact .inr (fun e => hne k hv e.symm))
theorem Owns.apart {w : World} {B' : Nat} {v u : Value} {ys : List Int} (hu : Owns w B' u ys) (hlt : ∀ k, v.ownBlock = some k → k < B') : ∀ k, v.ownBlock = some k → u.ownBlock ≠ some k := by
  intro k hk e
  have := (World.ownsRow.lt hu k e).1
  have := hlt k hk
  omega
theorem Owns.lt {w : World} {B : Nat} {v : Value} {zs : List Int} (h : Owns w B v zs) : ∀ k, v.ownBlock = some k → k < w.heap.size := fun k hk => (World.ownsRow.lt h k hk).2
/-- writing in a row of the call's own leaves what was below -/
theorem Below.marked {w w' : World} {B B' : Nat} {W : World} {v : Value} {zs : List Int} (h : Below B W w) (ho : Owns w B' v zs) (hB : B ≤ B') (hs : B ≤ w.heap.size) (hg : w.grownBy w' v.ownBlock) : Below B W w' :=
  h.grown hg hs (fun k hk => Nat.le_trans hB (World.ownsRow.lt ho k hk).1)
end Go.Proofs.Ytdcljbohoefpcaa
