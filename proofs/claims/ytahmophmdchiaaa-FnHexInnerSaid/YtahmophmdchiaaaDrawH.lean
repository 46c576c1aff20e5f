/- Contracts of the drawings of rows of digits. No condition beyond those stated. -/
import Derived.Test.YtahmophmdchiaaaOpen
import Derived.Test.YtahmophmdchiaaaSlices
import Derived.Test.YtahmophmdchiaaaHexW
namespace Go.Proofs.Ytahmophmdchiaaa
open Go.RowKit Gol
theorem Src.keptB {w w' : World} {R B : Nat} {a : Option Addr} {len cap k : Nat} (h : Src w R a len cap k) (hR : R < B) (hb : Below B w w') : Src w' R a len cap k := by
  refine ⟨(hb.cell (p := ⟨R, 0, none⟩) hR).trans h.c0, (hb.cell (p := ⟨R, 1, none⟩) hR).trans h.c1, (hb.frozen (p := ⟨R, 1, none⟩) hR).trans h.f1, Nat.lt_of_lt_of_le h.lt hb.size, h.le, ?_⟩
  rcases h.code with e | ⟨b, off, e, hlt, hx⟩
  · exact .inl e
  · refine .inr ⟨b, off, e, hlt, fun j hj => ?_⟩
    obtain ⟨x, h1, h2⟩ := hx j hj
    exact ⟨x, h1, (hb.cell (p := ⟨b, off + j, none⟩) (by simp only; omega)).trans h2⟩
theorem grownBy_own {a b c : World} {r g : Nat} (h : a.grownBy b (some r)) (k : b.grownBy c (some g)) (hg : a.heap.size ≤ g) : a.grownBy c (some r) :=
  ⟨k.os.trans h.os, k.tape.trans h.tape, k.output.trans h.output, Nat.le_trans h.size k.size, fun i hi hn => (k.block i (Nat.lt_of_lt_of_le hi h.size) (fun e => by cases e; omega)).trans (h.block i hi hn)⟩
theorem Owns.away {w w' : World} {B R : Nat} {v : Value} {zs : List Int} (h : Owns w B v zs) (hg : w.grownBy w' (some R)) (hR : R < B) : Owns w' B v zs :=
  World.ownsRow.kept h hg (by
    cases hv : v.ownBlock with
    | none => exact .inl rfl
    | some k => exact .inr (fun e => by have := (World.ownsRow.lt h k hv).1; cases e; omega))
/-- a row that can be read, in a block of its own, not the reader's -/
def RdOff (w : World) (R : Nat) (v : Value) (zs : List Int) : Prop :=
  zs.length ≤ 6 ∧ ∃ b cap, v = .slice (some ⟨b, 0, none⟩) zs.length cap ∧ b ≠ R ∧ b < w.heap.size ∧ ∀ j, j < zs.length → w.cell? ⟨b, j, none⟩ = some (.int .i64 (zs.getD j 0))
theorem RdOff.rd {w : World} {R : Nat} {v : Value} {zs : List Int} (h : RdOff w R v zs) : Rd w v zs := by
  obtain ⟨_, b, cap, rfl, _, hb, hc⟩ := h
  exact .inr ⟨b, 0, cap, rfl, hb, fun j hj => by rw [Nat.zero_add]; exact hc j hj⟩
theorem RdOff.grown {w w' : World} {R : Nat} {v : Value} {zs : List Int} (h : RdOff w R v zs) (hg : w.grownBy w' (some R)) : RdOff w' R v zs := by
  obtain ⟨hl, b, cap, rfl, hne, hb, hc⟩ := h
  refine ⟨hl, b, cap, rfl, hne, Nat.lt_of_lt_of_le hb hg.size, fun j hj => ?_⟩
  rw [← hc j hj]
  have := hg.block b hb (fun e => hne (by cases e; rfl))
  simp only [World.cell?, this]
/-- what the drawing of a row leaves -/
def DrawnR (R : Nat) (a : Option Addr) (len cap k : Nat) (w : World) (e : Ending) (w' : World) : Prop :=
  ∃ v zs, e = .returned v ∧ RdOff w' R v zs ∧ (∃ k', k' ≤ k + 8 ∧ Src w' R a len cap k') ∧ w.grownBy w' (some R)
theorem take_getD (zs : List Int) (n j : Nat) (h : j < n) : (zs.take n).getD j 0 = zs.getD j 0 := by simp [List.getD, h]
theorem Owns.off {w : World} {B R n cap : Nat} {a : Option Addr} {zs : List Int} (h : Owns w B (.slice a n cap) zs) (h0 : zs.length = 6) (hn : n = 6) (hR : R < B) : RdOff w R (.slice a n cap) zs := by
  obtain ⟨g, rfl, hB, hlt, hc⟩ := h.head (by omega)
  exact ⟨by omega, g, cap, by rw [hn, h0], by omega, hlt, hc⟩
set_option maxHeartbeats 2000000 in
theorem l91Row_any (R : Nat) (a : Option Addr) (len cap k : Nat) (W : World) (h : Src W R a len cap k) (hk : k ≤ 1000) :
    Calls Try.prog 66 #[.pointer (some ⟨R, 0, none⟩)] W (DrawnR R a len cap k W) := by
  have Hk := Lib.hid hk
  clear hk
  go_enter Try.func66, Try.ntmps66
  go_wp2_with fail
  refine (pick_any R a len cap k 4 _ h (by have := Hk.out; omega) (by omega) (by omega)).mono ?_
  rintro e w1 ⟨x, x0, x1, rfl, h1, g1⟩
  go_wp2_with fail
  refine (pick_any R a len cap (k + 1) 4 _ h1 (by have := Hk.out; omega) (by omega) (by omega)).mono ?_
  rintro e w2 ⟨y, y0, y1, rfl, h2, g2⟩
  go_wp2_with fail
  refine (pick_any R a len cap (k + 2) 4 _ h2 (by have := Hk.out; omega) (by omega) (by omega)).mono ?_
  rintro e w3 ⟨z, z0, z1, rfl, h3, g3⟩
  go_wp2_with fail
  refine (l2Of_any x y z x0 x1 y0 y1 z0 z1 _).mono ?_
  rintro e w4 ⟨a4, c4, rfl, ho4, b4⟩
  have h4 := h3.kept b4
  have G4 := Lib.hid (grownBy_trans g1 (grownBy_trans g2 (grownBy_trans g3 (grownBy_below b4))))
  have HR : Hid (R < w3.heap.size) := Lib.hid h3.lt
  have HW : Hid (W.heap.size ≤ w3.heap.size) := Lib.hid (Nat.le_trans g1.size (Nat.le_trans g2.size g3.size))
  have hz6 : (ints (hexRow x.toNat y.toNat z.toNat)).length = 6 := rfl
  generalize ints (hexRow x.toNat y.toNat z.toNat) = zs at ho4 hz6 ⊢
  rw [hz6] at ho4 ⊢
  clear h1 h2 h3 g1 g2 g3 x0 x1 y0 y1 z0 z1
  obtain ⟨B, hB⟩ : ∃ B, B = w3.heap.size := ⟨_, rfl⟩
  rw [← hB] at ho4 HR HW
  go_wp2_with fail
  refine (pick_any R a len cap (k + 3) 8 _ h4 (by have := Hk.out; omega) (by omega) (by omega)).mono ?_
  rintro e w5 ⟨s, s0, s1, rfl, h5, g5⟩
  have ho5 := ho4.away g5 HR.out
  have G5 := Lib.hid (grownBy_trans G4.out g5)
  obtain ⟨g, rfl, hBg, hgl, _⟩ := ho5.head (by omega)
  clear h4 ho4 b4 g5 hB
  have S5 := Lib.hid h5
  have O5 := Lib.hid ho5
  by_cases c0 : s = 0
  · subst c0
    go_wp2_with fail
    refine (pick_any R a len cap (k + 4) 6 _ S5.out (by have := Hk.out; omega) (by omega) (by omega)).mono ?_
    rintro e w6 ⟨i, i0, i1, rfl, h6, g6⟩
    go_wp2_with fail
    refine (pick_any R a len cap (k + 5) 5 _ h6 (by have := Hk.out; omega) (by omega) (by omega)).mono ?_
    rintro e w7 ⟨q, q0, q1, rfl, h7, g7⟩
    obtain ⟨j, rfl⟩ := Int.eq_ofNat_of_zero_le i0
    have ho7 := (O5.out.away g6 HR.out).away g7 HR.out
    obtain ⟨hc1, hc2⟩ := ho7.at j (by omega)
    obtain ⟨hs1, hs2⟩ := ho7.set hz6 j q
    have Hs1 := Lib.hid hs1
    have Hs2 := Lib.hid hs2
    have H7 := Lib.hid h7
    have HB7 := Lib.hid (Nat.le_trans (Nat.le_trans hBg (Nat.le_of_lt hgl)) (Nat.le_trans g6.size g7.size))
    have G7 := Lib.hid (grownBy_trans G5.out (grownBy_trans g6 g7))
    clear hs1 hs2 ho7 h6 h7 g6 g7 h5 ho5 q0 q1
    go_wp2
    go_ret
    refine ⟨_, zs.set j q, rfl, Hs1.out.off (by rw [List.length_set]; exact hz6) rfl HR.out, ⟨k + 6, by omega, H7.out.keptB HR.out ((Below.refl B _).grown Hs2.out HB7.out (fun k hk => by cases hk; exact hBg))⟩, grownBy_own G7.out Hs2.out (Nat.le_trans HW.out hBg)⟩
  · by_cases c1 : s = 1
    · subst c1
      have hcap : 6 ≤ c4 := by
        rcases O5.out.shape with ⟨e, _⟩ | ⟨g', cap', cur, e, _, _, _, hcap, _⟩
        · injection e with e1 e2 e3; cases e1
        · injection e with e1 e2 e3; omega
      go_wp2
      go_ret
      obtain ⟨_, b, cp, e, hne, hlt, hc⟩ := O5.out.off hz6 rfl HR.out
      injection e with e1 e2 e3
      injection e1 with e1
      injection e1 with e1
      subst e1
      refine ⟨_, zs.take 5, rfl, ⟨by rw [List.length_take]; omega, _, _, by rw [List.length_take, hz6]; rfl, hne, hlt, fun j hj => ?_⟩, ⟨k + 4, by omega, S5.out⟩, G5.out⟩
      rw [List.length_take] at hj
      rw [take_getD _ _ _ (by omega)]
      exact hc j (by omega)
    · by_cases c2 : s = 2
      · subst c2
        go_wp2_with fail
        refine (pick_any R a len cap (k + 4) 6 _ S5.out (by have := Hk.out; omega) (by omega) (by omega)).mono ?_
        rintro e w6 ⟨i, i0, i1, rfl, h6, g6⟩
        go_wp2_with fail
        refine (pick_any R a len cap (k + 5) 4 _ h6 (by have := Hk.out; omega) (by omega) (by omega)).mono ?_
        rintro e w7 ⟨q, q0, q1, rfl, h7, g7⟩
        obtain ⟨j, rfl⟩ := Int.eq_ofNat_of_zero_le i0
        have ho7 := (O5.out.away g6 HR.out).away g7 HR.out
        obtain ⟨hc1, hc2⟩ := ho7.at j (by omega)
        obtain ⟨hs1, hs2⟩ := ho7.set hz6 j q
        have Hs1 := Lib.hid hs1
        have Hs2 := Lib.hid hs2
        have H7 := Lib.hid h7
        have HB7 := Lib.hid (Nat.le_trans (Nat.le_trans hBg (Nat.le_of_lt hgl)) (Nat.le_trans g6.size g7.size))
        have G7 := Lib.hid (grownBy_trans G5.out (grownBy_trans g6 g7))
        clear hs1 hs2 ho7 h6 h7 g6 g7 h5 ho5 q0 q1
        go_wp2
        go_ret
        refine ⟨_, zs.set j q, rfl, Hs1.out.off (by rw [List.length_set]; exact hz6) rfl HR.out, ⟨k + 6, by omega, H7.out.keptB HR.out ((Below.refl B _).grown Hs2.out HB7.out (fun k hk => by cases hk; exact hBg))⟩, grownBy_own G7.out Hs2.out (Nat.le_trans HW.out hBg)⟩
      · have e0 : (s == 0) = false := by simp [c0]
        have e1 : (s == 1) = false := by simp [c1]
        have e2 : (s == 2) = false := by simp [c2]
        clear c0 c1 c2
        go_wp2
        go_ret
        exact ⟨_, zs, rfl, O5.out.off hz6 rfl HR.out, ⟨k + 4, by omega, S5.out⟩, G5.out⟩
/-- a row is drawn -/
def DrawnH (W : World) (e : Ending) (w' : World) : Prop := ∃ v zs, e = .returned v ∧ Rd w' v zs ∧ zs.length ≤ 6 ∧ Below W.heap.size W w'
def DrawnHH (W : World) (e : Ending) (w' : World) : Prop := ∃ v zs u ys, e = .returned (.tuple #[v, u]) ∧ Rd w' v zs ∧ zs.length ≤ 6 ∧ Rd w' u ys ∧ ys.length ≤ 6 ∧ Below W.heap.size W w'
def DrawnHD (W : World) (e : Ending) (w' : World) : Prop := ∃ v zs, ∃ x : Int, 0 ≤ x ∧ x ≤ 4 ∧ e = .returned (.tuple #[v, .int .i64 x]) ∧ Rd w' v zs ∧ zs.length ≤ 6 ∧ Below W.heap.size W w'
set_option maxHeartbeats 1000000 in
theorem l91Rows_any (a : Option Addr) (len cap : Nat) (z : List Int) (W : World) (h : IsRow .u8 W a len cap z) : Calls Try.prog 67 #[.slice a len cap] W (DrawnHH W) := by
  have H := Lib.hid h
  clear h
  go_enter Try.func67, Try.ntmps67
  go_wp2_with fail
  refine (open_any _ _ _ z _ H.out).mono ?_
  rintro e w1 ⟨a1, l1, c1, rfl, h1, b1⟩
  go_wp2_with fail
  refine (l91Row_any _ a1 l1 c1 0 _ h1 (by omega)).mono ?_
  rintro e w2 ⟨v, zs, rfl, o2, ⟨k2, hk2, h2⟩, g2⟩
  go_wp2_with fail
  refine (l91Row_any _ a1 l1 c1 k2 _ h2 (by omega)).mono ?_
  rintro e w3 ⟨u, ys, rfl, o3, _, g3⟩
  go_wp2
  go_ret2
  exact ⟨v, zs, u, ys, rfl, (o2.grown g3).rd, o2.1, o3.rd, o3.1, b1.grown (grownBy_trans g2 g3) b1.size (fun k hk => by cases hk; exact Nat.le_refl _)⟩
set_option maxHeartbeats 1000000 in
theorem DrawHexIn_any (a : Option Addr) (len cap : Nat) (z : List Int) (W : World) (h : IsRow .u8 W a len cap z) : Calls Try.prog 50 #[.slice a len cap] W (DrawnH W) := by
  have H := Lib.hid h
  clear h
  go_enter Try.func50, Try.ntmps50
  go_wp2_with fail
  refine (open_any _ _ _ z _ H.out).mono ?_
  rintro e w1 ⟨a1, l1, c1, rfl, h1, b1⟩
  go_wp2_with fail
  refine (l91Row_any _ a1 l1 c1 0 _ h1 (by omega)).mono ?_
  rintro e w2 ⟨v, zs, rfl, o2, _, g2⟩
  go_wp2
  go_ret
  exact ⟨v, zs, rfl, o2.rd, o2.1, b1.grown g2 b1.size (fun k hk => by cases hk; exact Nat.le_refl _)⟩
set_option maxHeartbeats 1000000 in
theorem DrawHexWeight_any (a : Option Addr) (len cap : Nat) (z : List Int) (W : World) (h : IsRow .u8 W a len cap z) : Calls Try.prog 43 #[.slice a len cap] W (DrawnH W) := by
  have H := Lib.hid h
  clear h
  go_enter Try.func43, Try.ntmps43
  go_wp2_with fail
  refine (open_any _ _ _ z _ H.out).mono ?_
  rintro e w1 ⟨a1, l1, c1, rfl, h1, b1⟩
  go_wp2_with fail
  refine (l91Row_any _ a1 l1 c1 0 _ h1 (by omega)).mono ?_
  rintro e w2 ⟨v, zs, rfl, o2, _, g2⟩
  go_wp2
  go_ret
  exact ⟨v, zs, rfl, o2.rd, o2.1, b1.grown g2 b1.size (fun k hk => by cases hk; exact Nat.le_refl _)⟩
set_option maxHeartbeats 1000000 in
theorem DrawHexNear_any (a : Option Addr) (len cap : Nat) (z : List Int) (W : World) (h : IsRow .u8 W a len cap z) : Calls Try.prog 52 #[.slice a len cap] W (DrawnH W) := by
  have H := Lib.hid h
  clear h
  go_enter Try.func52, Try.ntmps52
  go_wp2_with fail
  refine (open_any _ _ _ z _ H.out).mono ?_
  rintro e w1 ⟨a1, l1, c1, rfl, h1, b1⟩
  go_wp2_with fail
  refine (l91Row_any _ a1 l1 c1 0 _ h1 (by omega)).mono ?_
  rintro e w2 ⟨v, zs, rfl, o2, _, g2⟩
  go_wp2
  go_ret
  exact ⟨v, zs, rfl, o2.rd, o2.1, b1.grown g2 b1.size (fun k hk => by cases hk; exact Nat.le_refl _)⟩
theorem DrawHexAdd_any (a : Option Addr) (len cap : Nat) (z : List Int) (W : World) (h : IsRow .u8 W a len cap z) : Calls Try.prog 51 #[.slice a len cap] W (DrawnHH W) := by
  have H := Lib.hid h
  clear h
  go_enter Try.func51, Try.ntmps51
  go_wp2_with fail
  refine (l91Rows_any _ _ _ z _ H.out).mono ?_
  rintro e w2 ⟨v, zs, u, ys, rfl, hv⟩
  go_wp2
  go_ret2
  exact ⟨v, zs, u, ys, rfl, hv⟩
theorem DrawHexInner_any (a : Option Addr) (len cap : Nat) (z : List Int) (W : World) (h : IsRow .u8 W a len cap z) : Calls Try.prog 49 #[.slice a len cap] W (DrawnHH W) := by
  have H := Lib.hid h
  clear h
  go_enter Try.func49, Try.ntmps49
  go_wp2_with fail
  refine (l91Rows_any _ _ _ z _ H.out).mono ?_
  rintro e w2 ⟨v, zs, u, ys, rfl, hv⟩
  go_wp2
  go_ret2
  exact ⟨v, zs, u, ys, rfl, hv⟩
set_option maxHeartbeats 1000000 in
theorem DrawHexTimes_any (a : Option Addr) (len cap : Nat) (z : List Int) (W : World) (h : IsRow .u8 W a len cap z) : Calls Try.prog 46 #[.slice a len cap] W (DrawnHD W) := by
  have H := Lib.hid h
  clear h
  go_enter Try.func46, Try.ntmps46
  go_wp2_with fail
  refine (open_any _ _ _ z _ H.out).mono ?_
  rintro e w1 ⟨a1, l1, c1, rfl, h1, b1⟩
  go_wp2_with fail
  refine (l91Row_any _ a1 l1 c1 0 _ h1 (by omega)).mono ?_
  rintro e w2 ⟨v, zs, rfl, o2, ⟨k2, hk2, h2⟩, g2⟩
  go_wp2_with fail
  refine (pick_any _ a1 l1 c1 k2 5 _ h2 (by omega) (by omega) (by omega)).mono ?_
  rintro e w3 ⟨x, x0, x1, rfl, h3, g3⟩
  go_wp2
  go_ret2
  exact ⟨v, zs, x, x0, by omega, rfl, (o2.grown g3).rd, o2.1, b1.grown (grownBy_trans g2 g3) b1.size (fun k hk => by cases hk; exact Nat.le_refl _)⟩
end Go.Proofs.Ytahmophmdchiaaa
