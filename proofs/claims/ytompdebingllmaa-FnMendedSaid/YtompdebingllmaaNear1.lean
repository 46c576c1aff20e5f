/- Contracts of the search for the nearest words of the code: the program's list of all words, and the lists of both. No condition beyond those stated. -/
import Derived.Test.YtompdebingllmaaCodeOf
import Derived.Test.YtompdebingllmaaPlainN
import Derived.Test.YtompdebingllmaaShelf
import Derived.Sort.OwnSortedInts
namespace Go.Proofs.Ytompdebingllmaa
open Go.RowKit Gol
theorem wpList_append_at {w : World} {ops : Array Oper} {rest : List Oper} {o : Oper} {a : Act} {Q : Exit → Act → World → Prop} (hgd : o.guard = none) (s x : Operand)
    (ho : o.op = .call { callee := .builtin .append, args := #[s, x], argTypes := #[25, 25] }) (W0 : World) (B : Nat) (v : Value) (zs : List Int) (y : Int) (N : Nat) (hN : w.heap.size = N)
    (hs : a.eval s = v) (hx : a.eval x = .slice (some ⟨N, 0, none⟩) 1 1) (hown : Owns w B v zs) (hbel : Below B W0 w) (hB : B ≤ W0.heap.size) (hlen : zs.length ≤ 1000000)
    (h : ∀ v' w', Owns w' B v' (zs ++ [y]) → Below B W0 w' → wpList Try.prog ops Q rest (a.put o.dst v') w') : wpList Try.prog ops Q (o :: rest) a (w.alloc (.cells #[.int .i64 y] 3)) := by
  subst hN
  exact wpList_append_int hgd s x ho W0 B v zs y hs hx hown hbel hB hlen h
/-- the first n words of the code -/
def wordsL (n : Nat) : List Nat := (List.range n).map enc
theorem mapR_succ (f : Nat → Nat) (n : Nat) : ints ((List.range (n + 1)).map f) = ints ((List.range n).map f) ++ [((f n : Nat) : Int)] := by simp [ints, List.range_succ]
theorem mapR_at (f : Nat → Nat) (n k : Nat) (h : k < n) : (ints ((List.range n).map f)).getD k 0 = ((f k : Nat) : Int) := by
  rw [ints_at]
  simp [List.getD, h]
theorem wordsL_len (n : Nat) : (wordsL n).length = n := by rw [wordsL, List.length_map, List.length_range]
theorem wordsL_succ (n : Nat) : ints (wordsL (n + 1)) = ints (wordsL n) ++ [((enc n : Nat) : Int)] := mapR_succ enc n
theorem wordsL_at (n k : Nat) (h : k < n) : (ints (wordsL n)).getD k 0 = ((enc k : Nat) : Int) := mapR_at enc n k h
set_option maxHeartbeats 1000000 in
theorem words_any (N : Nat) (hN : N = 4096) (W : World) : Calls Try.prog 71 #[] W (RetOwns W.heap.size (ints (wordsL N)) W) := by
  have HN := Lib.hid hN
  clear hN
  go_enter Try.func71, Try.ntmps71
  go_wp2
  go_loopw [1, 4] (fun v i wr => ∃ k : Nat, k ≤ N ∧ i = .int .i64 k ∧ Owns wr W.heap.size v (ints (wordsL k)) ∧ Below W.heap.size W wr) (fun _ i _ => N - (intOf i).toNat)
  case atStart => exact ⟨0, Nat.zero_le _, rfl, Owns.made _ _ (Nat.le_refl _), (Below.refl _ _).alloc (Nat.le_refl _) _⟩
  case round =>
    obtain ⟨k, hk, rfl, hown, hbel⟩ := hrel
    have Hk := Lib.hid hk
    clear hk
    by_cases hlt : k < N
    · have Hlt : Hid (k < N) := Lib.hid hlt
      have h4 : k < 4096 := by have := HN.out; omega
      have i1 : (k : Int) < 4096 := by omega
      have Hs := Lib.hid (wordsL_succ k)
      have hlen : Hid ((ints (wordsL k)).length ≤ 1000000) := Lib.hid (by rw [ints_length, wordsL_len]; omega)
      have Hown := Lib.hid hown
      clear hown hlt
      generalize wordsL k = L at *
      go_wp2_with (first | (go_at_call 61; refine (codeOf_any k h4 _).mono ?_; rintro e w1 ⟨rfl, hb1⟩; simp only [Int.toNat_natCast]) | (at_builtin; refine wpList_append_int rfl _ _ rfl W W.heap.size _ _ ((enc k : Nat) : Int) (by rfl) (by rfl) (Hown.out.kept (hb1.mono (Nat.le_refl _))) (hbel.trans (hb1.mono hbel.size)) (Nat.le_refl _) hlen.out ?_; intro v1 w2 hown1 hbel1) | go_in)
      go_roundw
      case rel => exact ⟨k + 1, Hlt.out, by go_num, by rw [Hs.out]; exact hown1, hbel1⟩
      case measure => simp [intOf]; have := Hlt.out; omega
    · have e : k = N := by have := Hk.out; omega
      have i1 : ¬ (k : Int) < 4096 := by have := HN.out; omega
      subst e
      go_wp2
      go_ret
      exact RetOwns.mk hown hbel
/-- a list sorted -/
def sortL (zs : List Int) : List Int := zs.mergeSort fun x y => decide (x ≤ y)
theorem sortL_len (zs : List Int) : (sortL zs).length = zs.length := List.length_mergeSort zs
theorem sortL_is {l m : List Nat} (hp : l.Perm m) (hs : m.Pairwise (· ≤ ·)) : sortL (ints l) = ints m := by
  have h1 : (sortL (ints l)).Perm (ints m) := (List.mergeSort_perm _ _).trans (hp.map Int.ofNat)
  have h2 : (sortL (ints l)).Pairwise (fun a b => a ≤ b) := by
    have := List.pairwise_mergeSort (le := fun x y : Int => decide (x ≤ y)) (fun a b c h1 h2 => by simp at *; omega) (fun a b => by simp; omega) (ints l)
    exact this.imp (fun h => by simpa using h)
  have h3 : (ints m).Pairwise (fun a b => a ≤ b) := by
    unfold ints
    rw [List.pairwise_map]
    exact hs.imp (fun h => by simpa using h)
  exact h1.eq_of_pairwise (fun a b _ _ h1 h2 => Int.le_antisymm h1 h2) h2 h3
def Sorted (B : Nat) (v : Value) (zs : List Int) (w : World) (e : Ending) (w' : World) : Prop := e = .returned v ∧ Owns w' B v (sortL zs) ∧ w.grownBy w' v.ownBlock
set_option maxHeartbeats 1000000 in
theorem sorted_any (v : Value) (zs : List Int) (B : Nat) (W : World) (ho : Owns W B v zs) (hne : zs.length ≠ 0) (hl : zs.length ≤ 1000000) :
    Calls Try.prog 72 #[v] W (Sorted B v zs W) := by
  rcases ho.shape with ⟨_, e⟩ | ⟨g, cap, cur, rfl, hB, hlt, hg, h1, h2, h3, h4⟩
  · exact absurd (by rw [e]; rfl) hne
  have Hc := Lib.hid (Try.slices_Sort_int g 0 cap zs W (holds_of_blockI hg h4) hlt (by omega))
  have Ho : Hid (∀ n os, Owns (Go.Sort.grow (Go.Sort.putRow (Value.int .i64) (Sort.ahead W n) g 0 (sortL zs).toArray) os) B (.slice (some ⟨g, 0, none⟩) zs.length cap) (sortL zs) ∧ W.grownBy (Go.Sort.grow (Go.Sort.putRow (Value.int .i64) (Sort.ahead W n) g 0 (sortL zs).toArray) os) (some g)) := Lib.hid (fun n os => by
    refine ⟨?_, grownBy_sortedI _⟩
    have := ownsRow_sortedI (n := n) (os := os) (ts := sortL zs) (ss := zs) (sortL_len zs) hB hg h1 h2 (by omega)
    unfold Owns
    rw [sortL_len]
    exact this)
  clear ho hg h4 h1 h2 h3
  generalize hn : zs.length = n at *
  clear hl hne
  go_enter Try.func72, Try.ntmps72
  go_wp2_with fail
  refine Hc.out.mono ?_
  rintro e w1 ⟨rfl, k, os, rfl⟩
  go_wp2
  go_ret
  exact ⟨rfl, Ho.out k os⟩
def RetNear (B : Nat) (zs : List Int) (t : Int) (w : World) (e : Ending) (w' : World) : Prop := ∃ a cap, e = .returned (.tuple #[.slice a zs.length cap, .int .i64 t]) ∧ Owns w' B (.slice a zs.length cap) zs ∧ Below B w w'
theorem RetNear.mk {w w' : World} {B : Nat} {v : Value} {zs : List Int} {t : Int} (h : Owns w' B v zs) (hb : Below B w w') : RetNear B zs t w (.returned (.tuple #[v, .int .i64 t])) w' := by
  obtain ⟨a, cap, rfl⟩ := h.form
  exact ⟨a, cap, rfl, h, hb⟩
theorem nearI_pos (n : Nat) : (nearI n 0).2 = 25 := rfl
theorem nearI_step (n k : Nat) : nearI n (k + 1) = if pc (n ^^^ enc k) < (nearI n k).2 then ([enc k], pc (n ^^^ enc k)) else if pc (n ^^^ enc k) = (nearI n k).2 then ((nearI n k).1 ++ [enc k], (nearI n k).2) else nearI n k := rfl
theorem ints_append (l m : List Nat) : ints (l ++ m) = ints l ++ ints m := List.map_append
set_option maxHeartbeats 2000000 in
theorem near_any (n N : Nat) (hN : N = 4096) (hn : n < 16777216) (W : World) : Calls Try.prog 51 #[.int .i64 n] W (RetNear W.heap.size (ints (nearN n N)) (farN n N : Nat) W) := by
  have HN := Lib.hid hN
  have Hn := Lib.hid hn
  obtain ⟨hb0, hb1, hb2⟩ := near_both n N
  have HS : Hid (sortL (ints (nearI n N).1) = ints (nearN n N)) := Lib.hid (sortL_is hb1 hb2)
  have HF : Hid ((nearI n N).2 = farN n N) := Lib.hid rfl
  have hsome : (nearI n N).1 ≠ [] := near_some n N (by have := farN_four hN hn; unfold farN at this; omega)
  have Hne : Hid ((ints (nearI n N).1).length ≠ 0) := Lib.hid (by rw [ints_length]; intro h; exact hsome (List.eq_nil_of_length_eq_zero h))
  have Hlen : Hid ((ints (nearI n N).1).length ≤ 1000000) := Lib.hid (by rw [ints_length]; have := near_len n N; omega)
  clear hN hn hb0 hb1 hb2 hsome
  go_enter Try.func51, Try.ntmps51
  go_wp2_with fail
  refine (words_any N HN.out _).mono ?_
  rintro e w1 ⟨a1, c1, rfl, ho1, hb1⟩
  have hl1 : (ints (wordsL N)).length = N := by rw [ints_length, wordsL_len]
  rw [hl1] at ho1 ⊢
  obtain ⟨g, rfl, _, hg, hc⟩ := ho1.head (by rw [hl1]; have := HN.out; omega)
  rw [hl1] at hc
  have Hc : Hid (∀ j, j < N → w1.cell? ⟨g, j, none⟩ = some (.int .i64 (enc j : Nat))) := Lib.hid (fun j hj => by rw [hc j hj, wordsL_at N j hj])
  have Hb1 : Hid (Below W.heap.size W w1) := Lib.hid (((Below.refl _ _).alloc (Nat.le_refl _) _).trans (hb1.mono (by simp)))
  clear hc ho1 hb1 hl1
  go_wp2
  go_loopw [4, 5, 12] (fun v t i wr => ∃ k : Nat, k ≤ N ∧ i = .int .i64 k ∧ t = .int .i64 ((nearI n k).2 : Nat) ∧ (k = 0 ∨ Owns wr w1.heap.size v (ints (nearI n k).1)) ∧ Below w1.heap.size w1 wr) (fun _ _ i _ => N - (intOf i).toNat)
  case atStart => exact ⟨0, Nat.zero_le _, rfl, rfl, .inl rfl, Below.refl _ _⟩
  case round =>
    obtain ⟨k, hk, rfl, rfl, hown, hbel⟩ := hrel
    have Hk := Lib.hid hk
    clear hk
    by_cases hlt : k < N
    · have Hlt : Hid (k < N) := Lib.hid hlt
      have h4 : k < 4096 := by have := HN.out; omega
      have i1 : (k : Int) < (N : Int) := by omega
      have i2 : (N : Int) ≤ 4096 := by have := HN.out; omega
      have x1 := (hbel.cell (p := ⟨g, k, none⟩) hg).trans (Hc.out k hlt)
      have hel := (enc_ok k h4).1
      have hx := i64_xor n (enc k) (by have := Hn.out; omega) (by omega)
      have hW : IsW ((n ^^^ enc k : Nat) : Int) := IsW.mk _ (xor_lt24 Hn.out hel)
      have Hs := Lib.hid (nearI_step n k)
      have H25 : Hid ((nearI n k).2 ≤ 25) := Lib.hid (near_le25 n k)
      have hp24 : pc (n ^^^ enc k) ≤ 24 := pcN_le 24 _
      have H0 : Hid (k = 0 → (nearI n k).2 = 25) := Lib.hid (fun e => by rw [e]; rfl)
      have HL : Hid ((ints (nearI n k).1).length ≤ 1000000) := Lib.hid (by rw [ints_length]; have := near_len n k; omega)
      have Hown := Lib.hid hown
      have HW := Lib.hid hW
      clear hown hlt hel hW
      obtain ⟨L, hL⟩ : ∃ L, (nearI n k).1 = L := ⟨_, rfl⟩
      obtain ⟨d, hd⟩ : ∃ d, (nearI n k).2 = d := ⟨_, rfl⟩
      rw [hL, hd] at Hs
      rw [hL] at HL Hown
      rw [hd] at H25 H0 ⊢
      have Hk2 : Hid (nearI n k = (L, d)) := Lib.hid (by rw [← hL, ← hd])
      rw [Hk2.out] at Hs
      clear hL hd Hk2
      generalize hf : pc (n ^^^ enc k) = f at *
      have Hf := Lib.hid hf
      clear hf
      generalize n ^^^ enc k = y at *
      generalize enc k = x at *
      by_cases c1 : f < d
      · have t1 : (f : Int) < (d : Int) := by omega
        have Hs2 : Hid (nearI n (k + 1) = ([x], f)) := Lib.hid (by rw [Hs.out, if_pos c1])
        have hlen : Hid (([] : List Int).length ≤ 1000000) := Lib.hid (by simp)
        clear c1 Hs
        go_wp2_with (first | (go_at_call 54; refine (weight_any _ HW.out _).mono ?_; rintro e w' ⟨rfl, rfl⟩; simp only [Int.toNat_natCast, Hf.out]) | (at_builtin; refine wpList_append_at rfl _ _ rfl w1 w1.heap.size _ _ (x : Int) (wr.heap.size + 1) (by simp) (by rfl) (by rfl) (Owns.made wr w1.heap.size hbel.size) (hbel.alloc hbel.size _) (Nat.le_refl _) hlen.out ?_; intro v1 w2 hown1 hbel1) | go_in)
        go_roundw
        case rel => exact ⟨k + 1, Hlt.out, by go_num, by rw [Hs2.out], .inr (by rw [Hs2.out]; exact hown1), hbel1⟩
        case measure => simp [intOf]; have := Hlt.out; omega
      · have k0 : k ≠ 0 := fun e => by have := H0.out e; omega
        have hown : Owns wr w1.heap.size u4 (ints L) := Hown.out.resolve_left k0
        by_cases c2 : f = d
        · have Hs2 : Hid (nearI n (k + 1) = (L ++ [x], d)) := Lib.hid (by rw [Hs.out, if_neg c1, if_pos c2])
          have t1 : ¬ (f : Int) < (d : Int) := by omega
          have Hown := Lib.hid hown
          subst c2
          clear c1 Hs hown
          go_wp2_with (first | (go_at_call 54; refine (weight_any _ HW.out _).mono ?_; rintro e w' ⟨rfl, rfl⟩; simp only [Int.toNat_natCast, Hf.out]) | (at_builtin; refine wpList_append_int rfl _ _ rfl w1 w1.heap.size _ _ (x : Int) (by rfl) (by rfl) Hown.out hbel (Nat.le_refl _) HL.out ?_; intro v1 w2 hown1 hbel1) | go_in)
          go_roundw
          case rel => exact ⟨k + 1, Hlt.out, by go_num, by rw [Hs2.out], .inr (by rw [Hs2.out, ints_append]; exact hown1), hbel1⟩
          case measure => simp [intOf]; have := Hlt.out; omega
        · have Hs2 : Hid (nearI n (k + 1) = (L, d)) := Lib.hid (by rw [Hs.out, if_neg c1, if_neg c2])
          have t1 : ¬ (f : Int) < (d : Int) := by omega
          have t2 : ¬ (f : Int) = (d : Int) := by omega
          have Hown := Lib.hid hown
          clear c1 c2 Hs hown
          go_wp2_with (first | (go_at_call 54; refine (weight_any _ HW.out _).mono ?_; rintro e w' ⟨rfl, rfl⟩; simp only [Int.toNat_natCast, Hf.out]) | go_in)
          go_roundw
          case rel => exact ⟨k + 1, Hlt.out, by go_num, by rw [Hs2.out], .inr (by rw [Hs2.out]; exact Hown.out), hbel⟩
          case measure => simp [intOf]; have := Hlt.out; omega
    · have e : k = N := by have := Hk.out; omega
      have k0 : k ≠ 0 := by have := HN.out; omega
      subst e
      have hown := hown.resolve_left k0
      have Hown := Lib.hid hown
      clear hown k0
      go_wp2_with fail
      refine (sorted_any _ _ _ _ Hown.out Hne.out Hlen.out).mono ?_
      rintro e w2 ⟨rfl, ho2, hg2⟩
      rw [HF.out]
      rw [HS.out] at ho2
      go_wp2
      go_ret2
      exact RetNear.mk (ho2.base Hb1.out.size) (Below.marked (Hb1.out.trans (hbel.mono Hb1.out.size)) Hown.out Hb1.out.size (Nat.le_trans Hb1.out.size hbel.size) hg2)
end Go.Proofs.Ytompdebingllmaa
