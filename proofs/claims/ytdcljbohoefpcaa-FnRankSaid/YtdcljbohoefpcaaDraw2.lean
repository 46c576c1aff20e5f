/- Contracts of the drawing of words: a reader opened on a code, a word of the code, a word. No condition beyond those stated. -/
import Derived.Test.YtdcljbohoefpcaaDraw1
import Derived.Test.YtdcljbohoefpcaaPick
namespace Go.Proofs.Ytdcljbohoefpcaa
open Go.RowKit Go.ChangeShapes Gol
def Opened (w : World) (e : Ending) (w' : World) : Prop := ∃ a len cap, e = .returned (.pointer (some ⟨w.heap.size, 0, none⟩)) ∧ Src w' w.heap.size a len cap 0 ∧ Below w.heap.size w w'
theorem IsRow.code {w : World} {a : Option Addr} {len cap : Nat} {z : List Int} (h : IsRow .u8 w a len cap z) :
    len ≤ cap ∧ cap ≤ maxLen ∧ (len = 0 ∨ ∃ b off, a = some ⟨b, off, none⟩ ∧ b < w.heap.size ∧ ∀ j, j < len → ∃ x : Nat, x < 256 ∧ w.cell? ⟨b, off + j, none⟩ = some (.int .u8 x)) := by
  rcases h with ⟨rfl, rfl, rfl, rfl⟩ | ⟨x, rfl, hl, hm, hz, hc, hw⟩
  · exact ⟨Nat.le_refl _, Nat.zero_le _, .inl rfl⟩
  · refine ⟨hl, hm, ?_⟩
    by_cases h0 : len = 0
    · exact .inl h0
    · obtain ⟨b, off, spot⟩ := x
      have hspot : spot = none := by simpa [Addr.add] using World.cell?_spot (hc 0 (by omega))
      subst hspot
      refine .inr ⟨b, off, rfl, ?_, fun j hj => ?_⟩
      · have := World.block_lt_of_cell? w _ (hc 0 (by omega))
        simpa [Addr.add] using this
      · have hcj := hc j (by omega)
        have ea : (⟨b, off, none⟩ : Addr).add j = ⟨b, off + j, none⟩ := by unfold Addr.add; split <;> simp_all
        rw [ea] at hcj
        have hmem : z.getD j 0 ∈ z := by
          simp only [List.getD, List.getElem?_eq_getElem (show j < z.length by omega), Option.getD_some]
          exact List.getElem_mem _
        have hwf := hw _ hmem
        have hb : 0 ≤ z.getD j 0 ∧ z.getD j 0 ≤ 255 := bounds_u8 hwf
        refine ⟨(z.getD j 0).toNat, by omega, ?_⟩
        rw [hcj]
        congr 2
        omega
theorem Src.made (W : World) (T : TypeId) (a : Option Addr) (len cap : Nat) (h : len ≤ 2000) (hc : len = 0 ∨ ∃ b off, a = some ⟨b, off, none⟩ ∧ b < W.heap.size ∧ ∀ j, j < len → ∃ x : Nat, x < 256 ∧ W.cell? ⟨b, off + j, none⟩ = some (.int .u8 x)) :
    Src (W.alloc (.cells #[.slice a len cap, .int .i64 0] T)) W.heap.size a len cap 0 := by
  refine ⟨?_, ?_, ?_, by simp, h, ?_⟩
  · rw [World.cell?_alloc_new]; rfl
  · rw [World.cell?_alloc_new]; rfl
  · exact World.frozen?_alloc_new _ _ _ _
  · rcases hc with e | ⟨b, off, e, hb, hx⟩
    · exact .inl e
    · refine .inr ⟨b, off, e, hb, fun j hj => ?_⟩
      obtain ⟨x, h1, h2⟩ := hx j hj
      exact ⟨x, h1, by rw [World.cell?_alloc_past _ _ _ hb]; exact h2⟩
set_option maxHeartbeats 1000000 in
theorem open_any (a : Option Addr) (len cap : Nat) (z : List Int) (W : World) (h : IsRow .u8 W a len cap z) :
    Calls Try.prog 64 #[.slice a len cap] W (Opened W) := by
  obtain ⟨hlc, hcm, hcode⟩ := h.code
  have Hcode := Lib.hid hcode
  unfold maxLen at hcm
  clear h hcode
  by_cases hl : len ≤ 2000
  · have hl' : ¬ (2000 : Int) < (len : Int) := by omega
    go_enter Try.func64, Try.ntmps64
    go_wp2
    go_ret
    exact ⟨a, len, cap, rfl, Src.made W _ a len cap hl Hcode.out, (Below.refl _ _).alloc (Nat.le_refl _) _⟩
  · have hl' : (2000 : Int) < (len : Int) := by omega
    go_enter Try.func64, Try.ntmps64
    go_wp2
    go_ret
    refine ⟨a, 2000, cap, rfl, Src.made W _ a 2000 cap (Nat.le_refl _) ?_, (Below.refl _ _).alloc (Nat.le_refl _) _⟩
    rcases Hcode.out with e | ⟨b, off, e, hb, hx⟩
    · omega
    · exact .inr ⟨b, off, e, hb, fun j hj => hx j (by omega)⟩
theorem Src.kept {w w' : World} {R : Nat} {a : Option Addr} {len cap k : Nat} (h : Src w R a len cap k) (hb : Below w.heap.size w w') : Src w' R a len cap k := by
  have hR := h.lt
  refine ⟨(hb.cell (p := ⟨R, 0, none⟩) hR).trans h.c0, (hb.cell (p := ⟨R, 1, none⟩) hR).trans h.c1, (hb.frozen (p := ⟨R, 1, none⟩) hR).trans h.f1, Nat.lt_of_lt_of_le hR hb.size, h.le, ?_⟩
  rcases h.code with e | ⟨b, off, e, hlt, hx⟩
  · exact .inl e
  · refine .inr ⟨b, off, e, hlt, fun j hj => ?_⟩
    obtain ⟨x, h1, h2⟩ := hx j hj
    exact ⟨x, h1, (hb.cell (p := ⟨b, off + j, none⟩) (by simp only; omega)).trans h2⟩
theorem grownBy_below {w w' : World} {r : Option Nat} (h : Below w.heap.size w w') : w.grownBy w' r := ⟨h.os, h.tape, h.output, h.size, fun k hk _ => h.block k hk⟩
/-- what a drawing leaves: a number for which P holds, the reader further on by at most d, and nothing else turned -/
def Drawn (R : Nat) (a : Option Addr) (len cap k d : Nat) (P : Int → Prop) (w : World) (e : Ending) (w' : World) : Prop :=
  ∃ x : Int, P x ∧ e = .returned (.int .i64 x) ∧ (∃ k', k ≤ k' ∧ k' ≤ k + d ∧ Src w' R a len cap k') ∧ w.grownBy w' (some R)
def IsEnc (x : Int) : Prop := ∃ m : Nat, m < 4096 ∧ x = (enc m : Nat)
theorem IsEnc.word {x : Int} (h : IsEnc x) : IsW x := by
  obtain ⟨m, hm, rfl⟩ := h
  exact IsW.mk _ (enc_ok m hm).1
def Near0 (x : Int) : Prop := -1 ≤ x ∧ x ≤ 16777216
set_option maxHeartbeats 1000000 in
theorem l91Code_any (R : Nat) (a : Option Addr) (len cap k : Nat) (W : World) (h : Src W R a len cap k) (hk : k ≤ 900000) :
    Calls Try.prog 70 #[.pointer (some ⟨R, 0, none⟩)] W (Drawn R a len cap k 2 IsEnc W) := by
  have Hk := Lib.hid hk
  clear hk
  go_enter Try.func70, Try.ntmps70
  go_wp2_with fail
  refine (pick_any R a len cap k 64 _ h (by have := Hk.out; omega) (by omega) (by omega)).mono ?_
  rintro e w1 ⟨x, x0, x1, rfl, h1, g1⟩
  go_wp2_with fail
  refine (pick_any R a len cap (k + 1) 64 _ h1 (by have := Hk.out; omega) (by omega) (by omega)).mono ?_
  rintro e w2 ⟨y, y0, y1, rfl, h2, g2⟩
  go_wp2_with fail
  refine (l3Of_any _ (by omega) (by omega) _).mono ?_
  rintro e w3 ⟨rfl, b3⟩
  go_wp2
  go_ret
  exact ⟨_, ⟨_, by omega, rfl⟩, rfl, ⟨k + 2, by omega, by omega, h2.kept b3⟩, grownBy_trans g1 (grownBy_trans g2 (grownBy_below b3))⟩
theorem shl_small (q : Nat) (hq : q < 24) : ∃ t : Nat, IntKind.i64.wrap (1 * 2 ^ q) = (t : Int) ∧ t < 16777216 := by
  refine ⟨2 ^ q, shl_one q (by omega), ?_⟩
  have : 2 ^ q ≤ 2 ^ 23 := Nat.pow_le_pow_right (by decide) (by omega)
  omega
set_option maxHeartbeats 2000000 in
theorem l91Word_any (R : Nat) (a : Option Addr) (len cap k : Nat) (W : World) (h : Src W R a len cap k) (hk : k ≤ 800000) :
    Calls Try.prog 63 #[.pointer (some ⟨R, 0, none⟩)] W (Drawn R a len cap k 12 Near0 W) := by
  have Hk := Lib.hid hk
  clear hk
  go_enter Try.func63, Try.ntmps63
  go_wp2_with fail
  refine (pick_any R a len cap k 20 _ h (by have := Hk.out; omega) (by omega) (by omega)).mono ?_
  rintro e w1 ⟨x, x0, x1, rfl, h1, g1⟩
  by_cases c0 : x = 0
  · subst c0
    go_wp2
    go_ret
    exact ⟨-1, ⟨by omega, by omega⟩, rfl, ⟨k + 1, by omega, by omega, h1⟩, g1⟩
  · by_cases c1 : x = 1
    · subst c1
      go_wp2
      go_ret
      exact ⟨16777216, ⟨by omega, by omega⟩, rfl, ⟨k + 1, by omega, by omega, h1⟩, g1⟩
    · by_cases c2 : x = 2
      · subst c2
        go_wp2_with fail
        refine (pick_any R a len cap (k + 1) 256 _ h1 (by have := Hk.out; omega) (by omega) (by omega)).mono ?_
        rintro e w2 ⟨y, y0, y1, rfl, h2, g2⟩
        go_wp2_with fail
        refine (pick_any R a len cap (k + 2) 256 _ h2 (by have := Hk.out; omega) (by omega) (by omega)).mono ?_
        rintro e w3 ⟨z, z0, z1, rfl, h3, g3⟩
        go_wp2_with fail
        refine (pick_any R a len cap (k + 3) 256 _ h3 (by have := Hk.out; omega) (by omega) (by omega)).mono ?_
        rintro e w4 ⟨u, u0, u1, rfl, h4, g4⟩
        go_wp2
        go_ret
        exact ⟨_, ⟨by omega, by omega⟩, rfl, ⟨k + 4, by omega, by omega, h4⟩, grownBy_trans g1 (grownBy_trans g2 (grownBy_trans g3 g4))⟩
      · have e0 : (x == 0) = false := by simp [c0]
        have e1 : (x == 1) = false := by simp [c1]
        have e2 : (x == 2) = false := by simp [c2]
        clear c0 c1 c2
        go_wp2_with fail
        refine (l91Code_any R a len cap (k + 1) _ h1 (by have := Hk.out; omega)).mono ?_
        rintro e w2 ⟨y, hy, rfl, ⟨k2, k2a, k2b, h2⟩, g2⟩
        have Hy := Lib.hid hy.word
        clear hy
        go_wp2_with fail
        refine (pick_any R a len cap k2 6 _ h2 (by have := Hk.out; omega) (by omega) (by omega)).mono ?_
        rintro e w3 ⟨n, n0, n1, rfl, h3, g3⟩
        have G3 := Lib.hid (grownBy_trans g1 (grownBy_trans g2 g3))
        clear g1 g2 g3 h1 h2 x0 x1 e0 e1 e2
        go_wp2
        go_loopw [3, 5] (fun s i wr => ∃ j v : Nat, (j : Int) ≤ n ∧ i = .int .i64 j ∧ s = .int .i64 v ∧ Hid (v < 16777216) ∧ Src wr R a len cap (k2 + 1 + j) ∧ W.grownBy wr (some R)) (fun _ i _ => n.toNat - (intOf i).toNat)
        case atStart =>
          obtain ⟨v, hv, hv2⟩ := Hy.out.of
          exact ⟨0, v, by omega, rfl, by rw [hv], Lib.hid hv2, h3, G3.out⟩
        case round =>
          obtain ⟨j, v, hj, rfl, rfl, Hv, hs, hg⟩ := hrel
          by_cases hlt : (j : Int) < n
          · go_wp2_with fail
            refine (pick_any R a len cap (k2 + 1 + j) 24 _ hs (by have := Hk.out; omega) (by omega) (by omega)).mono ?_
            rintro e w4 ⟨q, q0, q1, rfl, h4, g4⟩
            obtain ⟨q, rfl⟩ := Int.eq_ofNat_of_zero_le q0
            obtain ⟨t, ht, ht2⟩ := shl_small q (by omega)
            have ht' : IntKind.i64.wrap (2 ^ q) = (t : Int) := by rw [← ht, Int.one_mul]
            have hx := i64_xor v t (by have := Hv.out; omega) (by omega)
            have Ht := Lib.hid ht2
            clear ht2
            go_wp2
            go_roundw
            case rel => exact ⟨j + 1, v ^^^ t, by omega, by go_num, rfl, xor_lt24 Hv.out Ht.out, h4, grownBy_trans hg g4⟩
            case measure => simp [intOf]; omega
          · go_wp2
            go_ret
            exact ⟨_, ⟨by omega, by have := Hv.out; omega⟩, rfl, ⟨k2 + 1 + j, by omega, by omega, hs⟩, hg⟩
end Go.Proofs.Ytdcljbohoefpcaa
