/- Contracts of the drawing of words and texts for the laws on texts; the texts of what is no word. No condition beyond those stated. -/
import Derived.Test.YtdcljbohoefpcaaDoorDrawA
import Derived.Test.YtdcljbohoefpcaaDoorText
namespace Go.Proofs.YtdcljbohoefpcaaDoor
open Go.RowKit Gol
theorem DrawWordText_any (a : Option Addr) (len cap : Nat) (z : List Int) (W : World) (h : IsRow .u8 W a len cap z) : Calls Tryd.prog 8 #[.slice a len cap] W (DrawnW W) := by
  have H := Lib.hid h
  clear h
  go_enter Tryd.func8, Tryd.ntmps8
  go_wp2_with fail
  refine (open_any _ _ _ z _ H.out).mono ?_
  rintro e w1 ⟨a1, l1, c1, rfl, h1, b1⟩
  go_wp2_with fail
  refine (l91Word_any _ a1 l1 c1 0 _ h1 (by omega)).mono ?_
  rintro e w2 ⟨x, hx, rfl, _, g2⟩
  go_wp2
  go_ret
  exact ⟨x, hx, rfl, b1.grown g2 b1.size (fun k hk => by cases hk; exact Nat.le_refl _)⟩
theorem specText_no (w : Int) (hw : ¬ IsW w) (W : World) : Calls Tryd.prog 10 #[.int .i64 w] W (TextIs (str []) false W) := by
  by_cases h0 : 0 ≤ w
  · have h1 : ¬ w ≤ 16777215 := fun h => hw ⟨h0, by omega⟩
    clear hw
    go_enter Tryd.func10, Tryd.ntmps10
    go_wp2
    go_ret2
    exact ⟨rfl, Below.refl _ _⟩
  · clear hw
    go_enter Tryd.func10, Tryd.ntmps10
    go_wp2
    go_ret2
    exact ⟨rfl, Below.refl _ _⟩
theorem implText_no (w : Int) (hw : ¬ IsW w) (W : World) : Calls Tryd.prog 9 #[.int .i64 w] W (TextIs (str []) false W) := by
  by_cases h0 : 0 ≤ w
  · have h1 : ¬ w ≤ 16777215 := fun h => hw ⟨h0, by omega⟩
    clear hw
    go_enter Tryd.func9, Tryd.ntmps9
    go_wp2
    go_ret2
    exact ⟨rfl, Below.refl _ _⟩
  · clear hw
    go_enter Tryd.func9, Tryd.ntmps9
    go_wp2
    go_ret2
    exact ⟨rfl, Below.refl _ _⟩
theorem specText_any (w : Int) : ∃ s : ByteArray, ∃ ok : Bool, s.size ≤ 27 ∧ Hid (∀ W, Calls Tryd.prog 10 #[.int .i64 w] W (TextIs s ok W)) := by
  by_cases hw : IsW w
  · obtain ⟨n, rfl, hn⟩ := hw.of
    exact ⟨_, true, by rw [str_size, txt_four]; decide, Lib.hid (specText_yes n hn)⟩
  · exact ⟨_, false, by rw [str_size]; decide, Lib.hid (specText_no w hw)⟩
def OneOf (R : Nat) (w : World) (e : Ending) (w' : World) : Prop := ∃ s : ByteArray, s.size ≤ 1 ∧ e = .returned (.string s) ∧ w.grownBy w' (some R)
theorem of_any (R : Nat) (a : Option Addr) (len cap k b : Nat) (W : World) (h : Src W R a len cap k) (hk : k ≤ 1000) (hne : b ≠ R) (hc : ∀ q, q < 3 → ∃ s : ByteArray, s.size ≤ 1 ∧ W.cell? ⟨b, q, none⟩ = some (.string s)) :
    Calls Tryd.prog 20 #[.pointer (some ⟨R, 0, none⟩), .slice (some ⟨b, 0, none⟩) 3 3] W (OneOf R W) := by
  have Hc := Lib.hid hc
  clear hc
  go_enter Tryd.func20, Tryd.ntmps20
  go_wp2_with fail
  refine (pick_any R a len cap k 3 _ h (by omega) (by omega) (by omega)).mono ?_
  rintro e w1 ⟨q, q0, q1, rfl, h1, g1⟩
  obtain ⟨q, rfl⟩ := Int.eq_ofNat_of_zero_le q0
  obtain ⟨s, hs, hcs⟩ := Hc.out q (by omega)
  have hcs1 := World.grownBy.cell g1 hcs (by simp; omega)
  have HG := Lib.hid g1
  have HS := Lib.hid hs
  clear Hc hcs h1 g1 hs h
  go_wp2
  go_ret
  exact ⟨s, HS.out, rfl, HG.out⟩
theorem lit_str (w : World) (q : Nat) (h : q < 3) : ∃ s : ByteArray, s.size ≤ 1 ∧ (w.alloc (.cells #[.string ⟨#[]⟩, .string ⟨#[120]⟩, .string ⟨#[46]⟩] 9)).cell? ⟨w.heap.size, q, none⟩ = some (.string s) := by
  match q, h with
  | 0, _ => exact ⟨⟨#[]⟩, by decide, by simp⟩
  | 1, _ => exact ⟨⟨#[120]⟩, by decide, by simp⟩
  | 2, _ => exact ⟨⟨#[46]⟩, by decide, by simp⟩
def DrawnS (W : World) (e : Ending) (w' : World) : Prop := ∃ s : ByteArray, s.size ≤ 100 ∧ e = .returned (.string s) ∧ Below W.heap.size W w'
theorem DrawWordRead_any (a : Option Addr) (len cap : Nat) (z : List Int) (W : World) (h : IsRow .u8 W a len cap z) : Calls Tryd.prog 11 #[.slice a len cap] W (DrawnS W) := by
  have H := Lib.hid h
  clear h
  go_enter Tryd.func11, Tryd.ntmps11
  go_wp2_with fail
  refine (open_any _ _ _ z _ H.out).mono ?_
  rintro e w1 ⟨a1, l1, c1, rfl, h1, b1⟩
  go_wp2_with fail
  refine (l91Word_any _ a1 l1 c1 0 _ h1 (by omega)).mono ?_
  rintro e w2 ⟨x, hx, rfl, ⟨k2, k2a, k2b, h2⟩, g2⟩
  obtain ⟨s, ok, hs, HT⟩ := specText_any x
  go_wp2_with fail
  refine (HT.out _).mono ?_
  rintro e w3 ⟨rfl, b3⟩
  have Hs := Lib.hid hs
  have H3 := Lib.hid (h2.kept b3)
  have G3 := Lib.hid (grownBy_trans g2 (grownBy_below b3))
  clear hs b3 h2 g2 HT hx h1
  cases ok with
  | true =>
    go_wp2_with fail
    refine (pick_any _ a1 l1 c1 k2 6 _ H3.out (by omega) (by omega) (by omega)).mono ?_
    rintro e w4 ⟨q, q0, q1, rfl, h4, g4⟩
    by_cases hq : 0 < q
    · go_wp2
      go_ret
      exact ⟨s, by have := Hs.out; omega, rfl, b1.grown (grownBy_trans G3.out g4) b1.size (fun k hk => by cases hk; exact Nat.le_refl _)⟩
    · go_wp2_with fail
      refine (of_any W.heap.size a1 l1 c1 (k2 + 1) _ _ (h4.kept ((Below.refl _ _).alloc (Nat.le_refl _) _)) (by omega) (by have := h4.lt; omega) (fun q hq => lit_str w4 q hq)).mono ?_
      rintro e w5 ⟨y, hy, rfl, g5⟩
      have hsz : s.size ≤ 27 := Hs.out
      go_wp2
      go_ret
      exact ⟨s ++ y, by rw [ByteArray.size_append]; omega, rfl, b1.grown (grownBy_trans (grownBy_trans G3.out g4) (grownBy_trans (grownBy_below ((Below.refl _ _).alloc (Nat.le_refl _) _)) g5)) b1.size (fun k hk => by cases hk; exact Nat.le_refl _)⟩
  | false =>
    go_wp2_with fail
    refine (of_any W.heap.size a1 l1 c1 k2 _ _ (H3.out.kept ((Below.refl _ _).alloc (Nat.le_refl _) _)) (by omega) (by have := H3.out.lt; omega) (fun q hq => lit_str w3 q hq)).mono ?_
    rintro e w5 ⟨y, hy, rfl, g5⟩
    have hsz : s.size ≤ 27 := Hs.out
    go_wp2
    go_ret
    exact ⟨s ++ y, by rw [ByteArray.size_append]; omega, rfl, b1.grown (grownBy_trans (G3.out) (grownBy_trans (grownBy_below ((Below.refl _ _).alloc (Nat.le_refl _) _)) g5)) b1.size (fun k hk => by cases hk; exact Nat.le_refl _)⟩
end Go.Proofs.YtdcljbohoefpcaaDoor
