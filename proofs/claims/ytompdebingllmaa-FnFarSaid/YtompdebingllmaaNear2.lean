/- The contract of the reference's search for the nearest words of the code. No condition beyond those stated. -/
import Derived.Test.YtompdebingllmaaNear1
import Derived.Deep.RegionHeld3
import Derived.Deep.AppendLies
namespace Go.Proofs.Ytompdebingllmaa
open Go.RowKit Gol
theorem step_append_list {w : World} {ops : Array Oper} {o : Oper} {a : Act} {K : Act → World → Prop} {Q : Exit → Act → World → Prop} {E : Prop} (hgd : o.guard = none) (s x : Operand)
    (ho : o.op = .call { callee := .builtin .append, args := #[s, x], argTypes := #[25, 25] }) (W0 : World) (B : Nat) (v : Value) (zs ys : List Int) (b off m c : Nat)
    (hs : a.eval s = v) (hx : a.eval x = .slice (some ⟨b, off, none⟩) m c) (hm : ys.length = m) (hc : ∀ j, j < ys.length → w.cell? ⟨b, off + j, none⟩ = some (.int .i64 (ys.getD j 0)))
    (hown : Owns w B v zs) (hbel : Below B W0 w) (hB : B ≤ W0.heap.size) (hl1 : zs.length ≤ 1000000) (hl2 : ys.length ≤ 1000000)
    (h : ∀ v' w', Owns w' B v' (zs ++ ys) → Below B W0 w' → w.grownBy w' v.ownBlock → K (a.put o.dst v') w') :
    if Region.wanted o (yielded ops a.tmps) = true then Oper.wp Try.prog o a w K Q else E := by
  subst hm
  obtain ⟨i0, hi, hz0, hz1, hz2⟩ := info_parts infoInt
  have hsz : B ≤ w.heap.size := Nat.le_trans hB hbel.size
  have hw : Region.wanted o (yielded ops a.tmps) = true := by simp [Region.wanted, hgd]
  rw [if_pos hw]
  have hadd : ∀ j, (⟨b, off, none⟩ : Addr).add j = ⟨b, off + j, none⟩ := fun j => by unfold Addr.add; split <;> simp_all
  obtain ⟨v', w', hr, h2, h3, _, _⟩ := run_append_own_at (P := Try.prog) w B 25 o.type 3 i0 (.int .i64 0) 1 8 Try.underlying25 hi hz0 hz1 hz2 rfl (by decide) v zs.length _ hown ⟨b, off, none⟩ ys.length c (ys.map (Value.int .i64)) (by simp)
    (fun j u hj => by
      rw [hadd]
      rw [List.getElem?_map] at hj
      by_cases hlt : j < ys.length
      · rw [List.getElem?_eq_getElem hlt] at hj
        rw [hc j hlt]
        simpa [List.getD, hlt] using hj
      · rw [List.getElem?_eq_none (by omega)] at hj
        cases hj)
    (by intro u hu; obtain ⟨y, _, rfl⟩ := List.mem_map.1 hu; rfl) (by unfold maxLen; omega) (by omega) hsz
  unfold Oper.wp execOp
  simp only [ho, resolve, invoke, builtin, Sem.run_bind, Sem.run_pure, Result.andThen_ok, List.map_toArray, List.map_cons, List.map_nil, hs, hx, hr]
  refine h v' w' ?_ (hbel.grown h3 hsz (fun k hk => (World.ownsRow.lt hown k hk).1)) h3
  unfold Owns
  rw [List.length_append, List.map_append]
  exact h2
theorem ins_eq {x p : Nat} {L : List Nat} (h : posK x L L.length = p) : (([] ++ ints (L.take p)) ++ [(x : Int)]) ++ ints (L.drop p) = ints (insS x L) := by
  simp [ints, insS, h]
theorem ins_eq0 {x : Nat} {L : List Nat} (h : posK x L L.length = 0) : ([] ++ [(x : Int)]) ++ ints (L.drop 0) = ints (insS x L) := by
  simp [ints, insS, h]
/-- the world with an empty row and one of one element made -/
def twoW (w : World) (x : Int) : World := ((w.alloc (.cells #[] 3)).alloc (.cells #[.int .i64 x] 3)).drew
theorem two_lit (w : World) (x : Int) : Owns ((w.alloc (.cells #[] 3)).alloc (.cells #[.int .i64 x] 3)).drew w.heap.size (.slice (some ⟨w.heap.size, 0, none⟩) 0 0) [] :=
  ((Owns.made w _ (Nat.le_refl _)).alloc _).drew
theorem two_below (w : World) (x : Int) : Below w.heap.size w ((w.alloc (.cells #[] 3)).alloc (.cells #[.int .i64 x] 3)).drew :=
  (((Below.refl _ w).alloc (Nat.le_refl _) _).alloc (by simp) _).drew
theorem two_cell (w : World) (x : Int) : ∀ j, j < [x].length → ((w.alloc (.cells #[] 3)).alloc (.cells #[.int .i64 x] 3)).drew.cell? ⟨w.heap.size + 1, 0 + j, none⟩ = some (.int .i64 ([x].getD j 0)) := by
  intro j hj
  have e : j = 0 := by simpa using hj
  subst e
  have h := one_cell (w.alloc (.cells #[] 3)) (.int .i64 x) 3 0 _ rfl
  have e2 : (w.alloc (.cells #[] 3)).heap.size = w.heap.size + 1 := by simp
  rw [e2] at h
  exact h
theorem two_size (w : World) (x : Int) : ((w.alloc (.cells #[] 3)).alloc (.cells #[.int .i64 x] 3)).drew.heap.size = w.heap.size + 2 := by simp
theorem ows_lit (w : World) (x : Int) : Owns ((w.alloc (.cells #[.int .i64 x] 3)).alloc (.cells #[] 3)).drew w.heap.size (.slice (some ⟨w.heap.size + 1, 0, none⟩) 0 0) [] := by
  have h := (Owns.made (w.alloc (.cells #[.int .i64 x] 3)) w.heap.size (by simp)).drew
  have e2 : (w.alloc (.cells #[.int .i64 x] 3)).heap.size = w.heap.size + 1 := by simp
  rw [e2] at h
  exact h
theorem ows_below (w : World) (x : Int) : Below w.heap.size w ((w.alloc (.cells #[.int .i64 x] 3)).alloc (.cells #[] 3)).drew :=
  (((Below.refl _ w).alloc (Nat.le_refl _) _).alloc (by simp) _).drew
theorem one_at (w : World) (x : Int) : ∀ j, j < [x].length → (w.alloc (.cells #[.int .i64 x] 3)).cell? ⟨w.heap.size, 0 + j, none⟩ = some (.int .i64 ([x].getD j 0)) := by
  intro j hj
  have e : j = 0 := by simpa using hj
  subst e
  exact one_cell w (.int .i64 x) 3 0 _ rfl
theorem ows_cell (w : World) (x : Int) : ∀ j, j < [x].length → ((w.alloc (.cells #[.int .i64 x] 3)).alloc (.cells #[] 3)).drew.cell? ⟨w.heap.size, 0 + j, none⟩ = some (.int .i64 ([x].getD j 0)) := by
  intro j hj
  have h := one_at w x j hj
  have b : Below (w.heap.size + 1) (w.alloc (.cells #[.int .i64 x] 3)) ((w.alloc (.cells #[.int .i64 x] 3)).alloc (.cells #[] 3)).drew := ((Below.refl _ _).alloc (by simp) _).drew
  rw [b.cell (p := ⟨w.heap.size, 0 + j, none⟩) (Nat.lt_succ_self _)]
  exact h
theorem ows_size (w : World) (x : Int) : ((w.alloc (.cells #[.int .i64 x] 3)).alloc (.cells #[] 3)).drew.heap.size = w.heap.size + 2 := by simp
/-- the reference's list, step by step -/
theorem nearS_step (n k : Nat) : nearS n (k + 1) = if pc (n ^^^ enc k) < (nearS n k).2 then ([enc k], pc (n ^^^ enc k)) else if pc (n ^^^ enc k) = (nearS n k).2 then (insS (enc k) (nearS n k).1, (nearS n k).2) else nearS n k := rfl
theorem insS_nil (x : Nat) : insS x [] = [x] := rfl
theorem insS_ne (x : Nat) (L : List Nat) : (insS x L).length ≠ 0 := by simp [insS]
theorem parts_rd {w : World} {B g cap n : Nat} {L : List Nat} (h : Owns w B (.slice (some ⟨g, 0, none⟩) n cap) (ints L)) (p : Nat) (hp : p ≤ L.length) :
    (∀ j, j < (ints (L.take p)).length → w.cell? ⟨g, 0 + j, none⟩ = some (.int .i64 ((ints (L.take p)).getD j 0))) ∧ (∀ j, j < (ints (L.drop p)).length → w.cell? ⟨g, p + j, none⟩ = some (.int .i64 ((ints (L.drop p)).getD j 0))) ∧ g < w.heap.size := by
  refine ⟨fun j hj => ?_, fun j hj => ?_, ?_⟩
  · rw [ints_length, List.length_take] at hj
    rw [Nat.zero_add, (h.at j (by rw [ints_length]; omega)).1, ints_at, ints_at]
    simp [List.getD, show j < p by omega]
  · rw [ints_length, List.length_drop] at hj
    rw [(h.at (p + j) (by rw [ints_length]; omega)).1, ints_at, ints_at]
    simp [List.getD]
  · rcases h.shape with ⟨e, _⟩ | ⟨g', cap', cur, e, _, hlt, _⟩
    · injection e with e1; cases e1
    · injection e with e1
      injection e1 with e1
      injection e1 with e1
      subst e1; exact hlt
set_option maxRecDepth 100000 in
set_option maxHeartbeats 4000000 in
theorem l3Near_any (n N : Nat) (hN : N = 4096) (hn : n < 16777216) (W : World) : Calls Try.prog 49 #[.int .i64 n] W (RetNear W.heap.size (ints (nearN n N)) (farN n N : Nat) W) := by
  have HN := Lib.hid hN
  have Hn := Lib.hid hn
  have HF : Hid ((nearS n N).2 = farN n N) := Lib.hid (near_both n N).1.symm
  have HS : Hid ((nearS n N).1 = nearN n N) := Lib.hid rfl
  have HB : Hid (∀ k, (nearI n k).2 = (nearS n k).2 ∧ (nearI n k).1.Perm (nearS n k).1) := Lib.hid (fun k => ⟨(near_both n k).1, (near_both n k).2.1⟩)
  clear hN hn
  go_enter Try.func49, Try.ntmps49
  go_wp2
  go_loopw [4, 5, 6] (fun v t i wr => ∃ k g cap : Nat, k ≤ N ∧ i = .int .i64 k ∧ t = .int .i64 ((nearS n k).2 : Nat) ∧ v = .slice (some ⟨g, 0, none⟩) (ints (nearS n k).1).length cap ∧ Owns wr W.heap.size (.slice (some ⟨g, 0, none⟩) (ints (nearS n k).1).length cap) (ints (nearS n k).1) ∧ Below W.heap.size W wr) (fun _ _ i _ => N - (intOf i).toNat)
  case atStart => exact ⟨0, _, _, Nat.zero_le _, rfl, rfl, rfl, Owns.made _ _ (Nat.le_refl _), (Below.refl _ _).alloc (Nat.le_refl _) _⟩
  case round =>
    obtain ⟨k, g, cap, hk, rfl, rfl, rfl, hown, hbel⟩ := hrel
    have Hk := Lib.hid hk
    clear hk
    by_cases hlt : k < N
    · have Hlt : Hid (k < N) := Lib.hid hlt
      have h4 : k < 4096 := by have := HN.out; omega
      have i1 : (k : Int) < 4096 := by omega
      have h4' : (k : Int) < 4096 := i1
      have hel := (enc_ok k h4).1
      have hx0 := i64_xor (enc k) n (by omega) (by have := Hn.out; omega)
      rw [Nat.xor_comm (enc k) n] at hx0
      have hW : IsW ((n ^^^ enc k : Nat) : Int) := IsW.mk _ (xor_lt24 Hn.out hel)
      have Hs := Lib.hid (nearS_step n k)
      have hp24 : pc (n ^^^ enc k) ≤ 24 := pcN_le 24 _
      have HL : Hid ((ints (nearS n k).1).length ≤ 4096) := Lib.hid (by rw [ints_length, ← (HB.out k).2.length_eq]; have := near_len n k; omega)
      have Hown := Lib.hid hown
      have HW := Lib.hid hW
      have Hbel := Lib.hid hbel
      clear hown hlt hel hW
      obtain ⟨L, hL⟩ : ∃ L, (nearS n k).1 = L := ⟨_, rfl⟩
      obtain ⟨d, hd⟩ : ∃ d, (nearS n k).2 = d := ⟨_, rfl⟩
      rw [hL, hd] at Hs
      rw [hL] at HL Hown ⊢
      rw [hd] at ⊢
      have Hk2 : Hid (nearS n k = (L, d)) := Lib.hid (by rw [← hL, ← hd])
      rw [Hk2.out] at Hs
      clear hL hd
      generalize hf : pc (n ^^^ enc k) = f at *
      have Hf := Lib.hid hf
      clear hf
      generalize n ^^^ enc k = z at *
      have HC : Hid (∀ W : World, Calls Try.prog 59 #[.int .i64 k] W (fun e W' => e = .returned (.int .i64 (enc k : Nat)) ∧ Below W.heap.size W W')) := Lib.hid (fun W => l3Of_any k (by omega) i1 W)
      generalize enc k = x at *
      by_cases c1 : f < d
      · have t1 : (f : Int) < (d : Int) := by omega
        have Hs2 : Hid (nearS n (k + 1) = (insS x [], f)) := Lib.hid (by rw [Hs.out, if_pos c1, insS_nil])
        clear c1 Hs
        go_wp2_with (first | (go_at_call 59; refine (HC.out _).mono ?_; rintro e w1 ⟨rfl, hb1⟩) | (go_at_call 63; refine (l1Weight_any _ HW.out _).mono ?_; rintro e w' ⟨rfl, rfl⟩; simp only [Int.toNat_natCast, Hf.out]) | go_in)
        have hb2 := (Hbel.out.trans (hb1.mono Hbel.out.size)).alloc (Nat.le_trans Hbel.out.size hb1.size) (.cells #[] 3)
        obtain ⟨wz, hwz⟩ : ∃ wz : World, w1.alloc (.cells #[] 3) = wz := ⟨_, rfl⟩
        rw [hwz] at hb2 ⊢
        clear hwz
        go_loop [9] (fun kk => kk = .int .i64 0) (fun _ => 0)
        case atStart => rfl
        case round =>
          obtain rfl := hrel
          go_wp2
          go_region_held3 (fun _ => True) (trivial)
            (first
              | (refine step_append_list (by rfl) _ _ (by rfl) wz wz.heap.size _ [] [(x : Int)] (wz.heap.size + 1) 0 1 1 (by rfl) (by rfl) (by rfl) (two_cell wz x) (two_lit wz x) (two_below wz x) (Nat.le_refl _) (by simp) (by simp) ?_; intro v2 w2 hown2 hbel2 hg2) | (refine step_append_list (by rfl) _ _ (by rfl) wz wz.heap.size _ [] [(x : Int)] wz.heap.size 0 1 1 (by rfl) (by rfl) (by rfl) (ows_cell wz x) (ows_lit wz x) (ows_below wz x) (Nat.le_refl _) (by simp) (by simp) ?_; intro v2 w2 hown2 hbel2 hg2) | (refine step_append_list (by rfl) _ _ (by rfl) wz wz.heap.size _ ([] ++ [(x : Int)]) [] _ _ 0 _ (by rfl) (by rfl) (by rfl) (fun j hj => absurd hj (by simp)) hown2 hbel2 (Nat.le_refl _) (by simp) (by simp) ?_; intro v3 w4 hown3 hbel3 hg3) | fail)
          all_goals
            go_wp2
            obtain ⟨a3, cp3, rfl⟩ := hown3.form
            obtain ⟨g3, rfl, _, _, _⟩ := hown3.head (by simp)
            have Hown3 := Lib.hid (hown3.base hb2.size)
            have Hbel3 := Lib.hid (hb2.trans (hbel3.mono hb2.size))
            clear hown3 hbel3 hg3
            go_roundw
            case rel => exact ⟨k + 1, g3, cp3, Hlt.out, by go_num, by rw [Hs2.out], by rw [Hs2.out]; rfl, by rw [Hs2.out]; exact Hown3.out, Hbel3.out⟩
            case measure => simp [intOf]; have := Hlt.out; omega
      · by_cases c2 : f = d
        · have Hs2 : Hid (nearS n (k + 1) = (insS x L, d)) := Lib.hid (by rw [Hs.out, if_neg c1, if_pos c2])
          have t1 : ¬ (f : Int) < (d : Int) := by omega
          subst c2
          clear c1 Hs
          go_wp2_with (first | (go_at_call 59; refine (HC.out _).mono ?_; rintro e w1 ⟨rfl, hb1⟩) | (go_at_call 63; refine (l1Weight_any _ HW.out _).mono ?_; rintro e w' ⟨rfl, rfl⟩; simp only [Int.toNat_natCast, Hf.out]) | go_in)
          have hown1 := Hown.out.kept (hb1.mono (Nat.le_refl _))
          have hb2 := Hbel.out.trans (hb1.mono Hbel.out.size)
          have Hown1 := Lib.hid hown1
          clear hown1
          have Hrd2 : Hid (∀ p, p ≤ L.length → (∀ j, j < (ints (L.take p)).length → w1.cell? ⟨g, 0 + j, none⟩ = some (.int .i64 ((ints (L.take p)).getD j 0))) ∧ (∀ j, j < (ints (L.drop p)).length → w1.cell? ⟨g, p + j, none⟩ = some (.int .i64 ((ints (L.drop p)).getD j 0))) ∧ g < w1.heap.size) := Lib.hid (parts_rd Hown1.out)
          have Hrd : Hid ((∀ j, j < (ints (L.drop 0)).length → w1.cell? ⟨g, 0 + j, none⟩ = some (.int .i64 ((ints (L.drop 0)).getD j 0))) ∧ g < w1.heap.size) := Lib.hid (Hrd2.out 0 (Nat.zero_le _)).2
          go_loop [9] (fun kk => ∃ j : Nat, j ≤ L.length ∧ kk = .int .i64 j ∧ posK x L L.length = posK x L j) (fun kk => (intOf kk).toNat)
          case atStart => exact ⟨L.length, Nat.le_refl _, by rw [ints_length], rfl⟩
          case round =>
            obtain ⟨j, hj, rfl, hpos⟩ := hrel
            cases j with
            | zero =>
              have Hp : Hid (posK x L L.length = 0) := Lib.hid hpos
              clear hpos hj
              go_wp2
              have hcap : (ints L).length ≤ cap := by
                rcases Hown1.out.shape with ⟨e, _⟩ | ⟨g', cap', cur, e, _, _, _, h1, _⟩
                · injection e with e1 e2 e3; cases e1
                · injection e with e1 e2 e3; omega
              have HL' := HL.out
              have hLl : (ints L).length = L.length := ints_length L
              obtain ⟨hc, hgl⟩ : (∀ j, j < (ints (L.drop 0)).length → w1.cell? ⟨g, 0 + j, none⟩ = some (.int .i64 ((ints (L.drop 0)).getD j 0))) ∧ g < w1.heap.size := Hrd.out
              have Hcd : Hid (∀ j, j < (ints (L.drop 0)).length → w1.cell? ⟨g, 0 + j, none⟩ = some (.int .i64 ((ints (L.drop 0)).getD j 0))) := Lib.hid hc
              have Hld1 : Hid ((ints (L.drop 0)).length = (ints L).length) := Lib.hid rfl
              have Hld2 : Hid ((ints (L.drop 0)).length ≤ 1000000) := Lib.hid (Nat.le_trans HL' (by decide))
              have Hlt4 : Hid (([] ++ [(x : Int)]).length ≤ 1000000) := Lib.hid (by simp)
              have hcap2 : ((ints L).length : Int) ≤ (cap : Int) := by omega
              clear hc HL' hLl hcap
              go_region_held3 (fun _ => True) (trivial)
                (first
                  | (refine step_append_list (by rfl) _ _ (by rfl) w1 w1.heap.size _ [] [(x : Int)] (w1.heap.size + 1) 0 1 1 (by rfl) (by rfl) (by rfl) (two_cell w1 x) (two_lit w1 x) (two_below w1 x) (Nat.le_refl _) (by simp) (by simp) ?_; intro v2 w2 hown2 hbel2 hg2) | (refine step_append_list (by rfl) _ _ (by rfl) w1 w1.heap.size _ [] [(x : Int)] w1.heap.size 0 1 1 (by rfl) (by rfl) (by rfl) (ows_cell w1 x) (ows_lit w1 x) (ows_below w1 x) (Nat.le_refl _) (by simp) (by simp) ?_; intro v2 w2 hown2 hbel2 hg2) | (refine step_append_list (by rfl) _ _ (by rfl) w1 w1.heap.size _ ([] ++ [(x : Int)]) (ints (L.drop 0)) g 0 _ _ (by rfl) (by rfl) Hld1.out (fun j hj => hbel2.cell (p := ⟨g, 0 + j, none⟩) hgl |>.trans (Hcd.out j hj)) hown2 hbel2 (Nat.le_refl _) Hlt4.out Hld2.out ?_; intro v3 w4 hown3 hbel3 hg3) | fail)
              all_goals
                go_wp2
                rw [ins_eq0 Hp.out] at hown3
                obtain ⟨a3, cp3, rfl⟩ := hown3.form
                obtain ⟨g3, rfl, _, _, _⟩ := hown3.head (by rw [ints_length]; exact insS_ne x L)
                have Hown3 := Lib.hid (hown3.base hb2.size)
                have Hbel3 := Lib.hid (hb2.trans (hbel3.mono hb2.size))
                clear hown3 hbel3 hg3
                go_roundw
                case rel => exact ⟨k + 1, g3, cp3, Hlt.out, by go_num, by rw [Hs2.out], by rw [Hs2.out], by rw [Hs2.out]; exact Hown3.out, Hbel3.out⟩
                case measure => simp [intOf]; have := Hlt.out; omega
            | succ i =>
              have hi : i < (ints L).length := by rw [ints_length]; omega
              have hcell := (Hown1.out.at i hi).1
              rw [ints_at] at hcell
              have Hst : Hid (posK x L (i + 1) = if x < L.getD i 0 then posK x L i else i + 1) := Lib.hid rfl
              have il : (i : Int) < ((ints L).length : Int) := by omega
              have hi2 : i < 4096 := by have := HL.out; omega
              generalize L.getD i 0 = y at *
              by_cases hxy : x < y
              · have Hn1 : Hid (posK x L L.length = posK x L i) := Lib.hid (by rw [hpos, Hst.out, if_pos hxy])
                clear hpos Hst
                go_wp2
                go_round
                case rel => exact ⟨i, by omega, by go_num, Hn1.out⟩
                case measure => simp [intOf]
              · have Hp : Hid (posK x L L.length = i + 1) := Lib.hid (by rw [hpos, Hst.out, if_neg hxy])
                have hp : i + 1 ≤ L.length := hj
                clear hpos Hst hj
                go_wp2
                have hcap : (ints L).length ≤ cap := by
                  rcases Hown1.out.shape with ⟨e, _⟩ | ⟨g', cap', cur, e, _, _, _, h1, _⟩
                  · injection e with e1 e2 e3; cases e1
                  · injection e with e1 e2 e3; omega
                have HL' := HL.out
                have hLl : (ints L).length = L.length := ints_length L
                obtain ⟨p, hp0⟩ : ∃ p : Nat, i + 1 = p := ⟨_, rfl⟩
                obtain ⟨hct, hcd, hgl⟩ := (Hrd2.out p (by omega))
                have Hct := Lib.hid hct
                have Hcd := Lib.hid hcd
                have Hlt1 : Hid ((ints (L.take p)).length = p) := Lib.hid (by rw [ints_length, List.length_take]; omega)
                have Hlt2 : Hid ((ints (L.take p)).length ≤ 1000000) := Lib.hid (by rw [ints_length, List.length_take]; omega)
                have Hlt3 : Hid (([] ++ ints (L.take p)).length ≤ 1000000) := Lib.hid (by rw [List.nil_append, ints_length, List.length_take]; omega)
                have Hlt4 : Hid ((([] ++ ints (L.take p)) ++ [(x : Int)]).length ≤ 1000000) := Lib.hid (by rw [List.length_append, List.nil_append, ints_length, List.length_take]; simp; omega)
                have Hld1 : Hid ((ints (L.drop p)).length = (ints L).length - p) := Lib.hid (by rw [ints_length, List.length_drop, ints_length])
                have Hld2 : Hid ((ints (L.drop p)).length ≤ 1000000) := Lib.hid (by rw [ints_length, List.length_drop]; omega)
                have hp1 : (i : Int) + 1 = (p : Int) := by omega
                rw [hp0] at Hp
                first | rw [hp1] | rw [hp0]
                have hpc : (p : Int) ≤ (cap : Int) := by omega
                have hpl : (p : Int) ≤ ((ints L).length : Int) := by omega
                have hcap2 : ((ints L).length : Int) ≤ (cap : Int) := by omega
                clear hct hcd HL' hLl hcap hp0 hp1 hp
                by_cases hcp : p = cap
                · have Hz : Hid ((ints (L.drop p)).length = 0) := Lib.hid (by have := ints_length L; rw [ints_length, List.length_drop]; omega)
                  subst hcp
                  go_region_held3 (fun _ => True) (trivial)
                    (first
                      | (refine step_append_list (by rfl) _ _ (by rfl) w1 w1.heap.size _ [] (ints (L.take p)) g 0 p _ (by rfl) (by rfl) Hlt1.out (fun j hj => (two_below w1 x).cell (p := ⟨g, 0 + j, none⟩) hgl |>.trans (Hct.out j hj)) (two_lit w1 x) (two_below w1 x) (Nat.le_refl _) (by simp) Hlt2.out ?_; intro v1 w2 hown1 hbel1 hg1) | (refine step_append_list (by rfl) _ _ (by rfl) w1 w1.heap.size _ [] (ints (L.take p)) g 0 p _ (by rfl) (by rfl) Hlt1.out (fun j hj => (ows_below w1 x).cell (p := ⟨g, 0 + j, none⟩) hgl |>.trans (Hct.out j hj)) (ows_lit w1 x) (ows_below w1 x) (Nat.le_refl _) (by simp) Hlt2.out ?_; intro v1 w2 hown1 hbel1 hg1) | (refine step_append_list (by rfl) _ _ (by rfl) w1 w1.heap.size _ [] (ints (L.take p)) g 0 p _ (by rfl) (by rfl) Hlt1.out (fun j hj => (((Below.refl _ w1).alloc (Nat.le_refl _) _).drew).cell (p := ⟨g, 0 + j, none⟩) hgl |>.trans (Hct.out j hj)) ((Owns.made w1 _ (Nat.le_refl _)).drew) (((Below.refl _ w1).alloc (Nat.le_refl _) _).drew) (Nat.le_refl _) (by simp) Hlt2.out ?_; intro v1 w2 hown1 hbel1 hg1) | (refine step_append_list (by rfl) _ _ (by rfl) w1 w1.heap.size _ ([] ++ ints (L.take p)) [(x : Int)] (w1.heap.size + 1) 0 1 1 (by rfl) (by rfl) (by rfl) (fun j hj => (hg1.cell_far ⟨w1.heap.size + 1, 0 + j, none⟩ (by rw [two_size]; exact Nat.lt_succ_self _) (by simp [Value.ownBlock])).trans (two_cell w1 x j hj)) hown1 hbel1 (Nat.le_refl _) Hlt3.out (by simp) ?_; intro v2 w3 hown2 hbel2 hg2) | (refine step_append_list (by rfl) _ _ (by rfl) w1 w1.heap.size _ ([] ++ ints (L.take p)) [(x : Int)] w1.heap.size 0 1 1 (by rfl) (by rfl) (by rfl) (fun j hj => (hg1.cell_far ⟨w1.heap.size, 0 + j, none⟩ (by rw [ows_size]; exact Nat.lt_succ_of_lt (Nat.lt_succ_self _)) (by simp [Value.ownBlock])).trans (ows_cell w1 x j hj)) hown1 hbel1 (Nat.le_refl _) Hlt3.out (by simp) ?_; intro v2 w3 hown2 hbel2 hg2) | (refine step_append_list (by rfl) _ _ (by rfl) w1 w1.heap.size _ ([] ++ ints (L.take p)) [(x : Int)] w2.heap.size 0 1 1 (by rfl) (by rfl) (by rfl) (one_at w2 x) (hown1.alloc _) (hbel1.alloc hbel1.size _) (Nat.le_refl _) Hlt3.out (by simp) ?_; intro v2 w3 hown2 hbel2 hg2) | (refine step_append_list (by rfl) _ _ (by rfl) w1 w1.heap.size _ (([] ++ ints (L.take p)) ++ [(x : Int)]) (ints (L.drop p)) g 0 _ _ (by rfl) (by rfl) Hld1.out (fun j hj => absurd hj (by rw [Hz.out]; exact Nat.not_lt_zero j)) hown2 hbel2 (Nat.le_refl _) Hlt4.out Hld2.out ?_; intro v3 w4 hown3 hbel3 hg3) | fail)
                  all_goals
                    go_wp2
                    rw [ins_eq Hp.out] at hown3
                    obtain ⟨a3, cp3, rfl⟩ := hown3.form
                    obtain ⟨g3, rfl, _, _, _⟩ := hown3.head (by rw [ints_length]; exact insS_ne x L)
                    have Hown3 := Lib.hid (hown3.base hb2.size)
                    have Hbel3 := Lib.hid (hb2.trans (hbel3.mono hb2.size))
                    clear hown3 hbel3 hg3
                    go_roundw
                    case rel => exact ⟨k + 1, g3, cp3, Hlt.out, by go_num, by rw [Hs2.out], by rw [Hs2.out], by rw [Hs2.out]; exact Hown3.out, Hbel3.out⟩
                    case measure => simp [intOf]; have := Hlt.out; omega
                · have hcp' : ¬ cap = p := fun e => hcp e.symm
                  go_region_held3 (fun _ => True) (trivial)
                    (first
                      | (refine step_append_list (by rfl) _ _ (by rfl) w1 w1.heap.size _ [] (ints (L.take p)) g 0 p _ (by rfl) (by rfl) Hlt1.out (fun j hj => (two_below w1 x).cell (p := ⟨g, 0 + j, none⟩) hgl |>.trans (Hct.out j hj)) (two_lit w1 x) (two_below w1 x) (Nat.le_refl _) (by simp) Hlt2.out ?_; intro v1 w2 hown1 hbel1 hg1) | (refine step_append_list (by rfl) _ _ (by rfl) w1 w1.heap.size _ [] (ints (L.take p)) g 0 p _ (by rfl) (by rfl) Hlt1.out (fun j hj => (ows_below w1 x).cell (p := ⟨g, 0 + j, none⟩) hgl |>.trans (Hct.out j hj)) (ows_lit w1 x) (ows_below w1 x) (Nat.le_refl _) (by simp) Hlt2.out ?_; intro v1 w2 hown1 hbel1 hg1) | (refine step_append_list (by rfl) _ _ (by rfl) w1 w1.heap.size _ [] (ints (L.take p)) g 0 p _ (by rfl) (by rfl) Hlt1.out (fun j hj => (((Below.refl _ w1).alloc (Nat.le_refl _) _).drew).cell (p := ⟨g, 0 + j, none⟩) hgl |>.trans (Hct.out j hj)) ((Owns.made w1 _ (Nat.le_refl _)).drew) (((Below.refl _ w1).alloc (Nat.le_refl _) _).drew) (Nat.le_refl _) (by simp) Hlt2.out ?_; intro v1 w2 hown1 hbel1 hg1) | (refine step_append_list (by rfl) _ _ (by rfl) w1 w1.heap.size _ ([] ++ ints (L.take p)) [(x : Int)] (w1.heap.size + 1) 0 1 1 (by rfl) (by rfl) (by rfl) (fun j hj => (hg1.cell_far ⟨w1.heap.size + 1, 0 + j, none⟩ (by rw [two_size]; exact Nat.lt_succ_self _) (by simp [Value.ownBlock])).trans (two_cell w1 x j hj)) hown1 hbel1 (Nat.le_refl _) Hlt3.out (by simp) ?_; intro v2 w3 hown2 hbel2 hg2) | (refine step_append_list (by rfl) _ _ (by rfl) w1 w1.heap.size _ ([] ++ ints (L.take p)) [(x : Int)] w1.heap.size 0 1 1 (by rfl) (by rfl) (by rfl) (fun j hj => (hg1.cell_far ⟨w1.heap.size, 0 + j, none⟩ (by rw [ows_size]; exact Nat.lt_succ_of_lt (Nat.lt_succ_self _)) (by simp [Value.ownBlock])).trans (ows_cell w1 x j hj)) hown1 hbel1 (Nat.le_refl _) Hlt3.out (by simp) ?_; intro v2 w3 hown2 hbel2 hg2) | (refine step_append_list (by rfl) _ _ (by rfl) w1 w1.heap.size _ ([] ++ ints (L.take p)) [(x : Int)] w2.heap.size 0 1 1 (by rfl) (by rfl) (by rfl) (one_at w2 x) (hown1.alloc _) (hbel1.alloc hbel1.size _) (Nat.le_refl _) Hlt3.out (by simp) ?_; intro v2 w3 hown2 hbel2 hg2) | (refine step_append_list (by rfl) _ _ (by rfl) w1 w1.heap.size _ (([] ++ ints (L.take p)) ++ [(x : Int)]) (ints (L.drop p)) g p _ _ (by rfl) (by rfl) Hld1.out (fun j hj => hbel2.cell (p := ⟨g, p + j, none⟩) hgl |>.trans (Hcd.out j hj)) hown2 hbel2 (Nat.le_refl _) Hlt4.out Hld2.out ?_; intro v3 w4 hown3 hbel3 hg3) | fail)
                  all_goals
                    go_wp2
                    rw [ins_eq Hp.out] at hown3
                    obtain ⟨a3, cp3, rfl⟩ := hown3.form
                    obtain ⟨g3, rfl, _, _, _⟩ := hown3.head (by rw [ints_length]; exact insS_ne x L)
                    have Hown3 := Lib.hid (hown3.base hb2.size)
                    have Hbel3 := Lib.hid (hb2.trans (hbel3.mono hb2.size))
                    clear hown3 hbel3 hg3
                    go_roundw
                    case rel => exact ⟨k + 1, g3, cp3, Hlt.out, by go_num, by rw [Hs2.out], by rw [Hs2.out], by rw [Hs2.out]; exact Hown3.out, Hbel3.out⟩
                    case measure => simp [intOf]; have := Hlt.out; omega
        · have Hs2 : Hid (nearS n (k + 1) = (L, d)) := Lib.hid (by rw [Hs.out, if_neg c1, if_neg c2])
          have t1 : ¬ (f : Int) < (d : Int) := by omega
          have t2 : ¬ (f : Int) = (d : Int) := by omega
          clear c1 c2 Hs
          go_wp2_with (first | (go_at_call 59; refine (HC.out _).mono ?_; rintro e w1 ⟨rfl, hb1⟩) | (go_at_call 63; refine (l1Weight_any _ HW.out _).mono ?_; rintro e w' ⟨rfl, rfl⟩; simp only [Int.toNat_natCast, Hf.out]) | go_in)
          go_roundw
          case rel => exact ⟨k + 1, g, cap, Hlt.out, by go_num, by rw [Hs2.out], by rw [Hs2.out], by rw [Hs2.out]; exact Hown.out.kept (hb1.mono (Nat.le_refl _)), Hbel.out.trans (hb1.mono Hbel.out.size)⟩
          case measure => simp [intOf]; have := Hlt.out; omega
    · have e : k = N := by have := Hk.out; omega
      have i1 : ¬ (k : Int) < 4096 := by have := HN.out; omega
      subst e
      rw [HS.out] at hown
      have Hown := Lib.hid hown
      clear hown
      rw [HS.out, HF.out]
      go_wp2
      go_ret2
      exact RetNear.mk Hown.out hbel
end Go.Proofs.Ytompdebingllmaa
