/- Contracts of the drawing of data: a reader opened on a code; what a drawing leaves. No condition beyond those stated. -/
import Derived.Test.YtdcljbohoefpcaaDoorPick
namespace Go.Proofs.YtdcljbohoefpcaaDoor
open Go.RowKit Go.ChangeShapes Gol
def Opened (w : World) (e : Ending) (w' : World) : Prop := ∃ a len cap, e = .returned (.pointer (some ⟨w.heap.size, 0, none⟩)) ∧ Src w' w.heap.size a len cap 0 ∧ Below w.heap.size w w'
theorem IsRow.code {w : World} {a : Option Addr} {len cap : Nat} {z : List Int} (h : IsRow .u8 w a len cap z) :
    len ≤ cap ∧ cap ≤ maxLen ∧ (len = 0 ∨ ∃ b off, a = some ⟨b, off, none⟩ ∧ b < w.heap.size ∧ ∀ j, j < len → ∃ x : Nat, x < 256 ∧ w.cell? ⟨b, off + j, none⟩ = some (.int .u8 x)) := by
  rcases h with ⟨rfl, rfl, rfl, rfl⟩ | ⟨x, rfl, hl, hm, hz, hc, hw⟩
  · exact ⟨Nat.le_refl _, Nat.zero_le _, .inl rfl⟩
  · refine ⟨hl, hm, ?_⟩
    by_cases h0 : len = 0
    · exact .inl h0
    · obtain ⟨b, off, spot⟩ := x
      have hspot : spot = none := by simpa [Addr.add] using World.cell?_spot (hc 0 (by omega))
      subst hspot
      refine .inr ⟨b, off, rfl, ?_, fun j hj => ?_⟩
      · have := World.block_lt_of_cell? w _ (hc 0 (by omega))
        simpa [Addr.add] using this
      · have hcj := hc j (by omega)
        have ea : (⟨b, off, none⟩ : Addr).add j = ⟨b, off + j, none⟩ := by unfold Addr.add; split <;> simp_all
        rw [ea] at hcj
        have hmem : z.getD j 0 ∈ z := by
          simp only [List.getD, List.getElem?_eq_getElem (show j < z.length by omega), Option.getD_some]
          exact List.getElem_mem _
        have hwf := hw _ hmem
        have hb : 0 ≤ z.getD j 0 ∧ z.getD j 0 ≤ 255 := bounds_u8 hwf
        refine ⟨(z.getD j 0).toNat, by omega, ?_⟩
        rw [hcj]
        congr 2
        omega
theorem Src.made (W : World) (T : TypeId) (a : Option Addr) (len cap : Nat) (h : len ≤ 2000) (hc : len = 0 ∨ ∃ b off, a = some ⟨b, off, none⟩ ∧ b < W.heap.size ∧ ∀ j, j < len → ∃ x : Nat, x < 256 ∧ W.cell? ⟨b, off + j, none⟩ = some (.int .u8 x)) :
    Src (W.alloc (.cells #[.slice a len cap, .int .i64 0] T)) W.heap.size a len cap 0 := by
  refine ⟨?_, ?_, ?_, by simp, h, ?_⟩
  · rw [World.cell?_alloc_new]; rfl
  · rw [World.cell?_alloc_new]; rfl
  · exact World.frozen?_alloc_new _ _ _ _
  · rcases hc with e | ⟨b, off, e, hb, hx⟩
    · exact .inl e
    · refine .inr ⟨b, off, e, hb, fun j hj => ?_⟩
      obtain ⟨x, h1, h2⟩ := hx j hj
      exact ⟨x, h1, by rw [World.cell?_alloc_past _ _ _ hb]; exact h2⟩
set_option maxHeartbeats 1000000 in
theorem open_any (a : Option Addr) (len cap : Nat) (z : List Int) (W : World) (h : IsRow .u8 W a len cap z) :
    Calls Tryd.prog 14 #[.slice a len cap] W (Opened W) := by
  obtain ⟨hlc, hcm, hcode⟩ := h.code
  have Hcode := Lib.hid hcode
  unfold maxLen at hcm
  clear h hcode
  by_cases hl : len ≤ 2000
  · have hl' : ¬ (2000 : Int) < (len : Int) := by omega
    go_enter Tryd.func14, Tryd.ntmps14
    go_wp2
    go_ret
    exact ⟨a, len, cap, rfl, Src.made W _ a len cap hl Hcode.out, (Below.refl _ _).alloc (Nat.le_refl _) _⟩
  · have hl' : (2000 : Int) < (len : Int) := by omega
    go_enter Tryd.func14, Tryd.ntmps14
    go_wp2
    go_ret
    refine ⟨a, 2000, cap, rfl, Src.made W _ a 2000 cap (Nat.le_refl _) ?_, (Below.refl _ _).alloc (Nat.le_refl _) _⟩
    rcases Hcode.out with e | ⟨b, off, e, hb, hx⟩
    · omega
    · exact .inr ⟨b, off, e, hb, fun j hj => hx j (by omega)⟩
theorem Src.kept {w w' : World} {R : Nat} {a : Option Addr} {len cap k : Nat} (h : Src w R a len cap k) (hb : Below w.heap.size w w') : Src w' R a len cap k := by
  have hR := h.lt
  refine ⟨(hb.cell (p := ⟨R, 0, none⟩) hR).trans h.c0, (hb.cell (p := ⟨R, 1, none⟩) hR).trans h.c1, (hb.frozen (p := ⟨R, 1, none⟩) hR).trans h.f1, Nat.lt_of_lt_of_le hR hb.size, h.le, ?_⟩
  rcases h.code with e | ⟨b, off, e, hlt, hx⟩
  · exact .inl e
  · refine .inr ⟨b, off, e, hlt, fun j hj => ?_⟩
    obtain ⟨x, h1, h2⟩ := hx j hj
    exact ⟨x, h1, (hb.cell (p := ⟨b, off + j, none⟩) (by simp only; omega)).trans h2⟩
theorem grownBy_below {w w' : World} {r : Option Nat} (h : Below w.heap.size w w') : w.grownBy w' r := ⟨h.os, h.tape, h.output, h.size, fun k hk _ => h.block k hk⟩
/-- what a drawing leaves: a number for which P holds, the reader further on by at most d, and nothing else turned -/
def Drawn (R : Nat) (a : Option Addr) (len cap k d : Nat) (P : Int → Prop) (w : World) (e : Ending) (w' : World) : Prop :=
  ∃ x : Int, P x ∧ e = .returned (.int .i64 x) ∧ (∃ k', k ≤ k' ∧ k' ≤ k + d ∧ Src w' R a len cap k') ∧ w.grownBy w' (some R)
end Go.Proofs.YtdcljbohoefpcaaDoor
