/- Contracts of the weight of a row, of both. No condition beyond those stated. -/
import Derived.Test.YtompdebingllmaaRows6
namespace Go.Proofs.Ytompdebingllmaa
open Go.RowKit Gol
theorem rowB_row {zs : List Int} (h : rowB zs = true) : ∃ l : List Nat, Row l ∧ zs = ints l := by
  unfold rowB at h
  simp only [Bool.and_eq_true, List.all_eq_true, decide_eq_true_eq] at h
  refine ⟨zs.map Int.toNat, ⟨by rw [List.length_map]; exact h.2, ?_⟩, ?_⟩
  · intro x hx
    obtain ⟨z, hz, rfl⟩ := List.mem_map.1 hx
    have := dig_iff.1 (h.1 z hz)
    omega
  · unfold ints
    rw [List.map_map]
    conv => lhs; rw [← List.map_id zs]
    refine List.map_congr_left fun z hz => ?_
    have := dig_iff.1 (h.1 z hz)
    simp only [id, Function.comp, Int.ofNat_eq_natCast]
    omega
theorem row_rowB {l : List Nat} (h : Row l) : rowB (ints l) = true := by
  unfold rowB
  simp only [Bool.and_eq_true, List.all_eq_true, decide_eq_true_eq]
  refine ⟨?_, by rw [ints_length]; exact h.1⟩
  intro z hz
  obtain ⟨x, hx, rfl⟩ := List.mem_map.1 hz
  have := h.2 x hx
  exact dig_iff.2 ⟨Int.natCast_nonneg _, by simp only [Int.ofNat_eq_natCast]; omega⟩
/-- the weight of a row, or -1 -/
def weightV (zs : List Int) : Int := if rowB zs then ((wt (zs.map Int.toNat) : Nat) : Int) else -1
theorem ints_toNat (l : List Nat) : (ints l).map Int.toNat = l := by
  unfold ints
  rw [List.map_map]
  conv => rhs; rw [← List.map_id l]
  exact List.map_congr_left fun z _ => by simp
theorem ints_getD (l : List Nat) (k : Nat) : (ints l).getD k 0 = ((l.getD k 0 : Nat) : Int) := by
  simp only [ints, List.getD, List.getElem?_map]
  cases l[k]? <;> rfl
theorem weightV_row {l : List Nat} (h : Row l) : weightV (ints l) = (wt l : Nat) := by simp [weightV, row_rowB h, ints_toNat]
theorem wt_drop (l : List Nat) (k : Nat) (h : k < l.length) : wt (l.drop k) = (if l.getD k 0 ≠ 0 then 1 else 0) + wt (l.drop (k + 1)) := by
  rw [List.drop_eq_getElem_cons h]
  simp [wt, List.getD, h]
end Go.Proofs.Ytompdebingllmaa
