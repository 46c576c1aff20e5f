/- Contracts of the drawing of words: a word of the code, a word. No condition beyond those stated. -/
import Derived.Test.YtdcljbohoefpcaaDoorDraw1
import Derived.Test.YtdcljbohoefpcaaDoorOpen
namespace Go.Proofs.YtdcljbohoefpcaaDoor
open Go.RowKit Go.ChangeShapes Gol
def IsEnc (x : Int) : Prop := ∃ m : Nat, m < 4096 ∧ x = (enc m : Nat)
theorem IsEnc.word {x : Int} (h : IsEnc x) : IsW x := by
  obtain ⟨m, hm, rfl⟩ := h
  exact IsW.mk _ (enc_ok m hm).1
def Near0 (x : Int) : Prop := -1 ≤ x ∧ x ≤ 16777216
set_option maxHeartbeats 1000000 in
theorem l91Code_any (R : Nat) (a : Option Addr) (len cap k : Nat) (W : World) (h : Src W R a len cap k) (hk : k ≤ 900000) :
    Calls Tryd.prog 22 #[.pointer (some ⟨R, 0, none⟩)] W (Drawn R a len cap k 2 IsEnc W) := by
  have Hk := Lib.hid hk
  clear hk
  go_enter Tryd.func22, Tryd.ntmps22
  go_wp2_with fail
  refine (pick_any R a len cap k 64 _ h (by have := Hk.out; omega) (by omega) (by omega)).mono ?_
  rintro e w1 ⟨x, x0, x1, rfl, h1, g1⟩
  go_wp2_with fail
  refine (pick_any R a len cap (k + 1) 64 _ h1 (by have := Hk.out; omega) (by omega) (by omega)).mono ?_
  rintro e w2 ⟨y, y0, y1, rfl, h2, g2⟩
  go_wp2_with fail
  refine (l3Of_any _ (by omega) (by omega) _).mono ?_
  rintro e w3 ⟨rfl, b3⟩
  go_wp2
  go_ret
  exact ⟨_, ⟨_, by omega, rfl⟩, rfl, ⟨k + 2, by omega, by omega, h2.kept b3⟩, grownBy_trans g1 (grownBy_trans g2 (grownBy_below b3))⟩
theorem shl_small (q : Nat) (hq : q < 24) : ∃ t : Nat, IntKind.i64.wrap (1 * 2 ^ q) = (t : Int) ∧ t < 16777216 := by
  refine ⟨2 ^ q, shl_one q (by omega), ?_⟩
  have : 2 ^ q ≤ 2 ^ 23 := Nat.pow_le_pow_right (by decide) (by omega)
  omega
set_option maxHeartbeats 2000000 in
theorem l91Word_any (R : Nat) (a : Option Addr) (len cap k : Nat) (W : World) (h : Src W R a len cap k) (hk : k ≤ 800000) :
    Calls Tryd.prog 13 #[.pointer (some ⟨R, 0, none⟩)] W (Drawn R a len cap k 12 Near0 W) := by
  have Hk := Lib.hid hk
  clear hk
  go_enter Tryd.func13, Tryd.ntmps13
  go_wp2_with fail
  refine (pick_any R a len cap k 20 _ h (by have := Hk.out; omega) (by omega) (by omega)).mono ?_
  rintro e w1 ⟨x, x0, x1, rfl, h1, g1⟩
  by_cases c0 : x = 0
  · subst c0
    go_wp2
    go_ret
    exact ⟨-1, ⟨by omega, by omega⟩, rfl, ⟨k + 1, by omega, by omega, h1⟩, g1⟩
  · by_cases c1 : x = 1
    · subst c1
      go_wp2
      go_ret
      exact ⟨16777216, ⟨by omega, by omega⟩, rfl, ⟨k + 1, by omega, by omega, h1⟩, g1⟩
    · by_cases c2 : x = 2
      · subst c2
        go_wp2_with fail
        refine (pick_any R a len cap (k + 1) 256 _ h1 (by have := Hk.out; omega) (by omega) (by omega)).mono ?_
        rintro e w2 ⟨y, y0, y1, rfl, h2, g2⟩
        go_wp2_with fail
        refine (pick_any R a len cap (k + 2) 256 _ h2 (by have := Hk.out; omega) (by omega) (by omega)).mono ?_
        rintro e w3 ⟨z, z0, z1, rfl, h3, g3⟩
        go_wp2_with fail
        refine (pick_any R a len cap (k + 3) 256 _ h3 (by have := Hk.out; omega) (by omega) (by omega)).mono ?_
        rintro e w4 ⟨u, u0, u1, rfl, h4, g4⟩
        go_wp2
        go_ret
        exact ⟨_, ⟨by omega, by omega⟩, rfl, ⟨k + 4, by omega, by omega, h4⟩, grownBy_trans g1 (grownBy_trans g2 (grownBy_trans g3 g4))⟩
      · have e0 : (x == 0) = false := by simp [c0]
        have e1 : (x == 1) = false := by simp [c1]
        have e2 : (x == 2) = false := by simp [c2]
        clear c0 c1 c2
        go_wp2_with fail
        refine (l91Code_any R a len cap (k + 1) _ h1 (by have := Hk.out; omega)).mono ?_
        rintro e w2 ⟨y, hy, rfl, ⟨k2, k2a, k2b, h2⟩, g2⟩
        have Hy := Lib.hid hy.word
        clear hy
        go_wp2_with fail
        refine (pick_any R a len cap k2 6 _ h2 (by have := Hk.out; omega) (by omega) (by omega)).mono ?_
        rintro e w3 ⟨n, n0, n1, rfl, h3, g3⟩
        have G3 := Lib.hid (grownBy_trans g1 (grownBy_trans g2 g3))
        clear g1 g2 g3 h1 h2 x0 x1 e0 e1 e2
        go_wp2
        go_loopw [3, 5] (fun s i wr => ∃ j v : Nat, (j : Int) ≤ n ∧ i = .int .i64 j ∧ s = .int .i64 v ∧ Hid (v < 16777216) ∧ Src wr R a len cap (k2 + 1 + j) ∧ W.grownBy wr (some R)) (fun _ i _ => n.toNat - (intOf i).toNat)
        case atStart =>
          obtain ⟨v, hv, hv2⟩ := Hy.out.of
          exact ⟨0, v, by omega, rfl, by rw [hv], Lib.hid hv2, h3, G3.out⟩
        case round =>
          obtain ⟨j, v, hj, rfl, rfl, Hv, hs, hg⟩ := hrel
          by_cases hlt : (j : Int) < n
          · go_wp2_with fail
            refine (pick_any R a len cap (k2 + 1 + j) 24 _ hs (by have := Hk.out; omega) (by omega) (by omega)).mono ?_
            rintro e w4 ⟨q, q0, q1, rfl, h4, g4⟩
            obtain ⟨q, rfl⟩ := Int.eq_ofNat_of_zero_le q0
            obtain ⟨t, ht, ht2⟩ := shl_small q (by omega)
            have ht' : IntKind.i64.wrap (2 ^ q) = (t : Int) := by rw [← ht, Int.one_mul]
            have hx := i64_xor v t (by have := Hv.out; omega) (by omega)
            have Ht := Lib.hid ht2
            clear ht2
            go_wp2
            go_roundw
            case rel => exact ⟨j + 1, v ^^^ t, by omega, by go_num, rfl, xor_lt24 Hv.out Ht.out, h4, grownBy_trans hg g4⟩
            case measure => simp [intOf]; omega
          · go_wp2
            go_ret
            exact ⟨_, ⟨by omega, by have := Hv.out; omega⟩, rfl, ⟨k2 + 1 + j, by omega, by omega, hs⟩, hg⟩
end Go.Proofs.YtdcljbohoefpcaaDoor
