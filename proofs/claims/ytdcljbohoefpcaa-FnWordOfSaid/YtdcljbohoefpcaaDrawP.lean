/- Contracts of the drawing of places. No condition beyond those stated. -/
import Derived.Test.YtdcljbohoefpcaaOpen
import Derived.Test.YtdcljbohoefpcaaSlices
import Derived.Test.YtdcljbohoefpcaaWords1
import Derived.Deep.RegionHeld3
import Derived.Deep.AppendLies
import Derived.Deep.RegionLaw
namespace Go.Proofs.Ytdcljbohoefpcaa
open Go.RowKit Gol
theorem pcN_full (w : Nat) : ∀ n, (∀ z, z < n → bitN w z = 1) → pcN n w = n
  | 0, _ => rfl
  | n + 1, h => by
    have h1 := pcN_full w n (fun z hz => h z (by omega))
    have h2 := h n (Nat.lt_succ_self n)
    simp only [pcN]
    omega
theorem zero_bit {w : Nat} (h : pc w < 24) : ∃ z, z < 24 ∧ bitN w z = 0 := by
  by_cases hz : ∃ z, z < 24 ∧ bitN w z = 0
  · exact hz
  · exfalso
    have : pcN 24 w = 24 := pcN_full w 24 (fun z hz2 => by
      have := bitN_lt w z
      by_cases e : bitN w z = 0
      · exact absurd ⟨z, hz2, e⟩ hz
      · omega)
    unfold pc at h
    omega
theorem Src.keptP {w w' : World} {R B : Nat} {a : Option Addr} {len cap k : Nat} (h : Src w R a len cap k) (hR : R < B) (hb : Below B w w') : Src w' R a len cap k := by
  refine ⟨(hb.cell (p := ⟨R, 0, none⟩) hR).trans h.c0, (hb.cell (p := ⟨R, 1, none⟩) hR).trans h.c1, (hb.frozen (p := ⟨R, 1, none⟩) hR).trans h.f1, Nat.lt_of_lt_of_le h.lt hb.size, h.le, ?_⟩
  rcases h.code with e | ⟨b, off, e, hlt, hx⟩
  · exact .inl e
  · refine .inr ⟨b, off, e, hlt, fun j hj => ?_⟩
    obtain ⟨x, h1, h2⟩ := hx j hj
    exact ⟨x, h1, (hb.cell (p := ⟨b, off + j, none⟩) (by simp only; omega)).trans h2⟩
theorem grownBy_and {a b c : World} {r : Nat} (h : a.grownBy b (some r)) (k : Below a.heap.size b c) : a.grownBy c (some r) :=
  ⟨k.os.trans h.os, k.tape.trans h.tape, k.output.trans h.output, Nat.le_trans h.size k.size, fun i hi hn => (k.block i hi).trans (h.block i hi hn)⟩
theorem Owns.awayP {w w' : World} {B R : Nat} {v : Value} {zs : List Int} (h : Owns w B v zs) (hg : w.grownBy w' (some R)) (hR : R < B) : Owns w' B v zs :=
  World.ownsRow.kept h hg (by
    cases hv : v.ownBlock with
    | none => exact .inl rfl
    | some k => exact .inr (fun e => by have := (World.ownsRow.lt h k hv).1; cases e; omega))
/-- what the drawing of places leaves: a row of the call's own, the reader further on -/
def DrawnPl (R : Nat) (w : World) (e : Ending) (w' : World) : Prop := ∃ v zs, e = .returned v ∧ Rd w' v zs ∧ zs.length ≤ 12 ∧ w.grownBy w' (some R)
def DrawnP (W : World) (e : Ending) (w' : World) : Prop := ∃ v zs, e = .returned v ∧ Rd w' v zs ∧ zs.length ≤ 12 ∧ Below W.heap.size W w'
theorem grownBy_ownP {a b c : World} {r g : Nat} (h : a.grownBy b (some r)) (k : b.grownBy c (some g)) (hg : a.heap.size ≤ g) : a.grownBy c (some r) :=
  ⟨k.os.trans h.os, k.tape.trans h.tape, k.output.trans h.output, Nat.le_trans h.size k.size, fun i hi hn => (k.block i (Nat.lt_of_lt_of_le hi h.size) (fun e => by cases e; omega)).trans (h.block i hi hn)⟩
def lenOf : Value → Nat
  | .slice _ n _ => n
  | _ => 0
theorem lit_cell (w : World) (x : Int) (q : Nat) (h : q < 3) : ∃ y : Int, (w.alloc (.cells #[.int .i64 24, .int .i64 (-1), .int .i64 x] 3)).cell? ⟨w.heap.size, q, none⟩ = some (.int .i64 y) := by
  match q, h with
  | 0, _ => exact ⟨24, by simp⟩
  | 1, _ => exact ⟨-1, by simp⟩
  | 2, _ => exact ⟨x, by simp⟩
theorem step24 (z p : Nat) (hz : z < 24) (hp : p < 24) (hne : p ≠ z) : (z + 24 - (p + 1) % 24) % 24 < (z + 24 - p) % 24 := by omega
/-- what is kept while a number is picked: two cells of a block that is not the reader's -/
theorem three_far {w w' w'' : World} {R g m : Nat} {x y : Value} (hb : Below w.heap.size w w') (hg : w'.grownBy w'' (some R)) (hgl : g < w.heap.size) (hne : g ≠ R) (c0 : w.cell? ⟨g, 0, none⟩ = some x) (c1 : w.cell? ⟨g, m, none⟩ = some y) (f0 : w.frozen? ⟨g, 0, none⟩ = false) :
    w''.cell? ⟨g, 0, none⟩ = some x ∧ w''.cell? ⟨g, m, none⟩ = some y ∧ w''.frozen? ⟨g, 0, none⟩ = false := by
  have hl : g < w'.heap.size := Nat.lt_of_lt_of_le hgl hb.size
  have hn : ∀ i, some (⟨g, i, none⟩ : Addr).block ≠ some R := fun i e => hne (by simpa using e)
  refine ⟨(hg.cell_far ⟨g, 0, none⟩ hl (hn 0)).trans ((hb.cell (p := ⟨g, 0, none⟩) hgl).trans c0), (hg.cell_far ⟨g, m, none⟩ hl (hn m)).trans ((hb.cell (p := ⟨g, m, none⟩) hgl).trans c1), (hg.frozen_far ⟨g, 0, none⟩ hl (hn 0)).trans ((hb.frozen (p := ⟨g, 0, none⟩) hgl).trans f0)⟩
theorem below_three {w w' : World} {g m : Nat} {x y : Value} (hb : Below w.heap.size w w') (hgl : g < w.heap.size) (c0 : w.cell? ⟨g, 0, none⟩ = some x) (c1 : w.cell? ⟨g, m, none⟩ = some y) (f0 : w.frozen? ⟨g, 0, none⟩ = false) :
    w'.cell? ⟨g, 0, none⟩ = some x ∧ w'.cell? ⟨g, m, none⟩ = some y ∧ w'.frozen? ⟨g, 0, none⟩ = false :=
  ⟨(hb.cell (p := ⟨g, 0, none⟩) hgl).trans c0, (hb.cell (p := ⟨g, m, none⟩) hgl).trans c1, (hb.frozen (p := ⟨g, 0, none⟩) hgl).trans f0⟩
theorem lit_pick {w w'' : World} {R : Nat} (x : Int) (q : Nat) (h : q < 3) (hR : R < w.heap.size) (hg : ((w.alloc (.cells #[.int .i64 24, .int .i64 (-1), .int .i64 x] 3)).drew).grownBy w'' (some R)) : ∃ y : Int, w''.cell? ⟨w.heap.size, q, none⟩ = some (.int .i64 y) := by
  obtain ⟨y, hy⟩ := lit_cell w x q h
  exact ⟨y, (hg.cell_far ⟨w.heap.size, q, none⟩ (by simp) (by simp; omega)).trans hy⟩
set_option maxRecDepth 100000 in
set_option maxHeartbeats 4000000 in
theorem l91Places_any (R : Nat) (a : Option Addr) (len cap k : Nat) (n : Nat) (W : World) (h : Src W R a len cap k) (hk : k ≤ 1000) (hn : n ≤ 11) :
    Calls Try.prog 67 #[.pointer (some ⟨R, 0, none⟩), .int .i64 n] W (DrawnPl R W) := by
  have Hk := Lib.hid hk
  have Hn := Lib.hid hn
  have HR := Lib.hid h.lt
  have n11 : (n : Int) ≤ 11 := by omega
  clear hk hn
  go_enter Try.func67, Try.ntmps67
  go_wp2
  go_loopw [5, 6] (fun v s wr => ∃ (j w g cp : Nat) (zs : List Int), v = .slice (some ⟨g, 0, none⟩) j cp ∧ j ≤ n ∧ s = .int .i64 w ∧ zs.length = j ∧ Owns wr W.heap.size (.slice (some ⟨g, 0, none⟩) j cp) zs ∧ Hid (w < 16777216) ∧ Hid (pc w = j) ∧ Src wr R a len cap (k + j) ∧ W.grownBy wr (some R)) (fun v _ _ => n - lenOf v)
  case atStart => exact ⟨0, 0, _, _, [], rfl, Nat.zero_le _, rfl, rfl, Owns.made _ _ (Nat.le_refl _), Lib.hid (by decide), Lib.hid (by decide), h.keptP HR.out ((Below.refl _ _).alloc (Nat.le_refl _) _), grownBy_below ((Below.refl _ _).alloc (Nat.le_refl _) _)⟩
  case round =>
    obtain ⟨j, w, g, cp, zs, rfl, hj, rfl, hlen, hown, Hw, Hp, hs, hg⟩ := hrel
    by_cases hlt : j < n
    · have hjn : (j : Int) < (n : Int) := by omega
      go_wp2_with fail
      refine (pick_any R a len cap (k + j) 24 _ hs (by have := Hk.out; have := Hn.out; omega) (by omega) (by omega)).mono ?_
      rintro e w2 ⟨q, q0, q1, rfl, h2, g2⟩
      obtain ⟨q, rfl⟩ := Int.eq_ofNat_of_zero_le q0
      have hq24 : q < 24 := by omega
      obtain ⟨z, hz, hbz⟩ := zero_bit (w := w) (by rw [Hp.out]; have := Hn.out; omega)
      have Hown := Lib.hid (hown.awayP g2 HR.out)
      have HG := Lib.hid (grownBy_trans hg g2)
      have HS2 := Lib.hid h2
      have HL := Lib.hid hlen
      clear hown hg g2 h2 hs q0 q1 hlen
      go_wp2
      go_loop [7] (fun pv => ∃ p : Nat, p < 24 ∧ pv = .int .i64 p) (fun pv => (z + 24 - (intOf pv).toNat) % 24)
      case atStart => exact ⟨q, hq24, rfl⟩
      case round =>
        obtain ⟨p, hp, rfl⟩ := hrel
        by_cases hb : bitN w p = 1
        · have hne : p ≠ z := fun e => by rw [e, hbz] at hb; cases hb
          have hst := step24 z p hz hp hne
          go_wp2_with (go_at_call 55; refine (l1Bit_any _ _ (by omega) (by have := Hw.out; omega) (by omega) (by omega) _).mono ?_; rintro e w' ⟨rfl, rfl⟩; simp only [Int.toNat_natCast, hb])
          go_round
          case rel => exact ⟨(p + 1) % 24, Nat.mod_lt _ (by decide), by go_num⟩
          case measure => simp only [intOf]; have e1 : (((p : Int) + 1) % 24).toNat = (p + 1) % 24 := by omega
                          first | (rw [e1, Int.toNat_natCast]; exact hst) | (simp; omega)
        · have hb0 : bitN w p = 0 := by have := bitN_lt w p; omega
          have hsh := shl_one p (by omega)
          rw [Int.one_mul] at hsh
          have hsh' : wrap64 ((2 : Int) ^ p) = ((2 ^ p : Nat) : Int) := (IntWalk.i64_left _).symm.trans hsh
          have Hw2 : Hid (w + 2 ^ p < 16777216) := Lib.hid (lt24_add w p Hw.out hp hb0)
          have Hp2 : Hid (pc (w + 2 ^ p) = j + 1) := Lib.hid (by
            have := pcN_add w p hb0 24
            rw [if_pos hp] at this
            unfold pc
            rw [this]
            have := Hp.out
            unfold pc at this
            omega)
          obtain ⟨t, ht⟩ : ∃ t, 2 ^ p = t := ⟨_, rfl⟩
          rw [ht] at hsh' Hw2 Hp2
          have hwt : wrap64 ((w : Int) + (t : Int)) = ((w + t : Nat) : Int) := by
            have h3 : IntKind.i64.wrap ((w + t : Nat) : Int) = ((w + t : Nat) : Int) := i64_nat _ (by have := Hw2.out; omega)
            rw [← Int.natCast_add]
            exact (IntWalk.i64_left _).symm.trans h3
          have hlen : Hid (zs.length ≤ 1000000) := Lib.hid (by rw [HL.out]; have := Hn.out; omega)
          have hsz : W.heap.size ≤ w2.heap.size := HG.out.size
          clear ht hsh
          go_wp2_with (first | (go_at_call 55; refine (l1Bit_any _ _ (by omega) (by have := Hw.out; omega) (by omega) (by omega) _).mono ?_; rintro e w' ⟨rfl, rfl⟩; simp only [Int.toNat_natCast, hb0]) | (at_builtin; refine wpList_append_int rfl _ _ rfl w2 W.heap.size _ _ (p : Int) (by rfl) (by rfl) Hown.out (Below.refl _ _) hsz hlen.out ?_; intro v1 w3 hown1 hbel1))
          obtain ⟨a3, cp3, rfl⟩ := hown1.form
          obtain ⟨g3, rfl, _, _, _⟩ := hown1.head (by rw [List.length_append]; simp)
          have e3 : (zs ++ [(p : Int)]).length = j + 1 := by rw [List.length_append, HL.out]; rfl
          rw [e3] at hown1 ⊢
          go_roundw
          case rel => exact ⟨j + 1, w + t, g3, cp3, zs ++ [(p : Int)], rfl, by omega, by go_num, e3, hown1, Hw2, Hp2, HS2.out.keptP HR.out hbel1, grownBy_and HG.out hbel1⟩
          case measure => simp [lenOf]; omega
    · have e : j = n := by omega
      subst e
      have hjn : ¬ (j : Int) < (j : Int) := by omega
      have hz12 : zs.length ≤ 12 := by have := Hn.out; omega
      have H12 := Lib.hid hz12
      have HL := Lib.hid hlen
      clear hz12 hlen Hp Hw
      cases j with
      | zero =>
        go_wp2
        go_ret
        exact ⟨_, zs, rfl, by have := hown.rd; rwa [← HL.out] at this ⊢, H12.out, hg⟩
      | succ m =>
        have hm1 : (0 : Int) < (m : Int) + 1 := by omega
        have hm2 : (m : Int) < (m : Int) + 1 := by omega
        go_wp2_with fail
        refine (pick_any R a len cap (k + (m + 1)) 20 _ hs (by have := Hk.out; have := Hn.out; omega) (by omega) (by omega)).mono ?_
        rintro e w2 ⟨x, x0, x1, rfl, h2, g2⟩
        have hown2 := hown.awayP g2 HR.out
        have hg2 := grownBy_trans hg g2
        clear hown hg g2 hs
        by_cases hx : x = 0
        · subst hx
          obtain ⟨c0, f0⟩ := hown2.at 0 (by rw [HL.out]; omega)
          obtain ⟨c1, _⟩ := hown2.at m (by rw [HL.out]; omega)
          have hgg : W.heap.size ≤ g ∧ g < w2.heap.size := by
            rcases hown2.shape with ⟨e, _⟩ | ⟨g', cap', cur, e, h1, h2, _⟩
            · injection e with e1; cases e1
            · injection e with e1; injection e1 with e1; injection e1 with e1; subst e1; exact ⟨h1, h2⟩
          generalize zs.getD 0 0 = y0 at c0
          generalize zs.getD m 0 = y1 at c1
          have Hown2 := Lib.hid hown2
          have H2 := Lib.hid h2
          have Hg2 := Lib.hid hg2
          have Hgg := Lib.hid hgg
          clear hown2 h2 hg2 hgg x0 x1
          have hwrap : IntKind.i64.wrap (m : Int) = (m : Int) := i64_nat m (by have := Hn.out; omega)
          have HRw : Hid (R < w2.heap.size) := Lib.hid (Nat.lt_of_lt_of_le HR.out Hg2.out.size)
          have Hne : Hid (g ≠ R) := Lib.hid (by have := Hgg.out.1; have := HR.out; omega)
          have HB0 : Hid (Below w2.heap.size w2 w2.drew) := Lib.hid ((Below.refl _ _).drew)
          have HB1 : Hid (Below w2.heap.size w2 ((w2.alloc (.cells #[.int .i64 24, .int .i64 (-1), .int .i64 y1] 3)).drew)) := Lib.hid (((Below.refl _ _).alloc (Nat.le_refl _) _).drew)
          obtain ⟨hS1a, hS1b, hS1c⟩ := below_three HB1.out Hgg.out.2 c0 c1 f0
          go_wp2_with fail
          go_region_law (first | (go_simp; go_at_call 68; refine (pick_any R a len cap (k + (m + 1) + 1) 3 _ (H2.out.keptP HRw.out HB1.out) (by have := Hk.out; have := Hn.out; omega) (by omega) (by omega)).mono ?_; rintro e w3 ⟨q, q0, q1, rfl, h3, g3⟩; obtain ⟨q, rfl⟩ := Int.eq_ofNat_of_zero_le q0; obtain ⟨y, hy⟩ := lit_pick y1 q (by omega) HRw.out g3; have hthree := three_far HB1.out g3 Hgg.out.2 Hne.out c0 c1 f0; obtain ⟨d0, d1, d2⟩ := hthree; have hgl3 : g < w3.heap.size := Nat.lt_of_lt_of_le Hgg.out.2 (Nat.le_trans HB1.out.size g3.size); have Hown3 := Lib.hid ((Hown2.out.kept HB1.out).awayP g3 HR.out); have HG3 := Lib.hid (grownBy_trans (grownBy_trans Hg2.out (grownBy_below HB1.out)) g3); obtain ⟨e0, e1, e2⟩ := below_three (w' := w3.alloc (.cells #[.int .i64 24, .int .i64 (-1), .int .i64 y1] 3)) ((Below.refl _ _).alloc (Nat.le_refl _) _) hgl3 d0 d1 d2; clear g3 h3) | (go_simp; go_at_call 68; refine (pick_any R a len cap (k + (m + 1) + 1) 3 _ (H2.out.keptP HRw.out HB0.out) (by have := Hk.out; have := Hn.out; omega) (by omega) (by omega)).mono ?_; rintro e w3 ⟨q, q0, q1, rfl, h3, g3⟩; obtain ⟨q, rfl⟩ := Int.eq_ofNat_of_zero_le q0; obtain ⟨y, hy⟩ := lit_cell w3 y1 q (by omega); have hthree := three_far HB0.out g3 Hgg.out.2 Hne.out c0 c1 f0; obtain ⟨d0, d1, d2⟩ := hthree; have hgl3 : g < w3.heap.size := Nat.lt_of_lt_of_le Hgg.out.2 (Nat.le_trans HB0.out.size g3.size); have Hown3 := Lib.hid ((Hown2.out.kept HB0.out).awayP g3 HR.out); have HG3 := Lib.hid (grownBy_trans (grownBy_trans Hg2.out (grownBy_below HB0.out)) g3); obtain ⟨e0, e1, e2⟩ := below_three (w' := w3.alloc (.cells #[.int .i64 24, .int .i64 (-1), .int .i64 y1] 3)) ((Below.refl _ _).alloc (Nat.le_refl _) _) hgl3 d0 d1 d2; clear g3 h3) | fail)
          all_goals
            go_wp2
            go_ret
            first
              | exact ⟨_, zs.set 0 y, rfl, (Hown3.out.set HL.out 0 y).1.rd, by rw [List.length_set]; exact H12.out, grownBy_ownP HG3.out (Hown3.out.set HL.out 0 y).2 Hgg.out.1⟩
              | exact ⟨_, zs.set 0 y, rfl, ((Hown3.out.set HL.out 0 y).1.alloc _).rd, by rw [List.length_set]; exact H12.out, grownBy_trans (grownBy_ownP HG3.out (Hown3.out.set HL.out 0 y).2 Hgg.out.1) (grownBy_below ((Below.refl _ _).alloc (Nat.le_refl _) _))⟩
        · have e0 : (x == 0) = false := by simp [hx]
          go_wp2
          go_ret
          exact ⟨_, zs, rfl, by have := hown2.rd; rwa [← HL.out] at this ⊢, H12.out, hg2⟩
set_option maxHeartbeats 1000000 in
theorem DrawWordOf_any (a : Option Addr) (len cap : Nat) (z : List Int) (W : World) (h : IsRow .u8 W a len cap z) : Calls Try.prog 46 #[.slice a len cap] W (DrawnP W) := by
  have H := Lib.hid h
  clear h
  go_enter Try.func46, Try.ntmps46
  go_wp2_with fail
  refine (open_any _ _ _ z _ H.out).mono ?_
  rintro e w1 ⟨a1, l1, c1, rfl, h1, b1⟩
  go_wp2_with fail
  refine (pick_any _ a1 l1 c1 0 12 _ h1 (by omega) (by omega) (by omega)).mono ?_
  rintro e w2 ⟨x, x0, x1, rfl, h2, g2⟩
  obtain ⟨n, rfl⟩ := Int.eq_ofNat_of_zero_le x0
  go_wp2_with fail
  refine (l91Places_any _ a1 l1 c1 1 n _ h2 (by omega) (by omega)).mono ?_
  rintro e w3 ⟨v, zs, rfl, hr, hl, g3⟩
  go_wp2
  go_ret
  exact ⟨v, zs, rfl, hr, hl, b1.grown (grownBy_trans g2 g3) b1.size (fun k hk => by cases hk; exact Nat.le_refl _)⟩
end Go.Proofs.Ytdcljbohoefpcaa
