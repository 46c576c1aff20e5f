/- What the hexacode's laws need beyond the contracts. No condition beyond those stated. -/
import Derived.Test.YtahmophmdchiaaaHexNear
import Derived.Test.YtahmophmdchiaaaHexInner
import Derived.Test.YtahmophmdchiaaaDigitLaws
namespace Go.Proofs.Ytahmophmdchiaaa
open Go.RowKit Gol
theorem row_wt {l : List Nat} (h : Row l) : wt l ≤ 6 := by have := wt_le l; rw [h.1] at this; exact this
theorem wt_zeros {l : List Nat} (h : Row l) : decide (wt l = 0) = eqL (ints l) [0, 0, 0, 0, 0, 0] := by
  have e : ([0, 0, 0, 0, 0, 0] : List Int) = ints [0, 0, 0, 0, 0, 0] := rfl
  rw [Bool.eq_iff_iff]
  simp only [eqL, decide_eq_true_eq]
  rw [e, ints_inj]
  exact wt_zero h
theorem lit6 (w : World) : Rd (w.alloc (.cells #[.int .i64 0, .int .i64 0, .int .i64 0, .int .i64 0, .int .i64 0, .int .i64 0] 3)) (.slice (some ⟨w.heap.size, 0, none⟩) 6 6) [0, 0, 0, 0, 0, 0] := by
  have h : Owns (w.alloc (.cells #[.int .i64 0, .int .i64 0, .int .i64 0, .int .i64 0, .int .i64 0, .int .i64 0] 3)) w.heap.size (.slice (some ⟨w.heap.size, 0, none⟩) 6 6) [0, 0, 0, 0, 0, 0] :=
    World.ownsRow_lit w #[.int .i64 0, .int .i64 0, .int .i64 0, .int .i64 0, .int .i64 0, .int .i64 0] 6 (Nat.le_refl _) (by decide) rfl
  exact h.rd
theorem hexOf_yes (p q r : Nat) (hp : p < 4) (hq : q < 4) (hr : r < 4) : ∃ l : List Nat, Row l ∧ Hid (hexB (ints l) = true) ∧
    Hid (∀ W, Calls Try.prog 32 #[.int .i64 p, .int .i64 q, .int .i64 r] W (RetOwns2 W.heap.size (ints l) true W)) ∧
    Hid (∀ W, Calls Try.prog 31 #[.int .i64 p, .int .i64 q, .int .i64 r] W (RetOwns2 W.heap.size (ints l) true W)) ∧
    l.getD 0 0 = p ∧ l.getD 1 0 = q ∧ l.getD 2 0 = r ∧ (wt l = 0 ∨ wt l = 4 ∨ wt l = 6) := by
  have h1 : dig p = true := dig_iff.2 ⟨by omega, by omega⟩
  have h2 : dig q = true := dig_iff.2 ⟨by omega, by omega⟩
  have h3 : dig r = true := dig_iff.2 ⟨by omega, by omega⟩
  have hK : hexK p q r = true := by simp [hexK, h1, h2, h3]
  have hV : hexV p q r = ints (hexRow p q r) := by simp [hexV, h1, h2, h3]
  have hR := hexRow_row hp hq hr
  refine ⟨hexRow p q r, hR, Lib.hid (by rw [hexB_row hR]; exact hexRow_in p q r), Lib.hid (fun W => ?_), Lib.hid (fun W => ?_), rfl, rfl, rfl, hexRow_wt p hp q hq r hr⟩
  · have := implHexOf_any p q r W; rwa [hK, hV] at this
  · have := specHexOf_any p q r W; rwa [hK, hV] at this
theorem hexB_facts {zs : List Int} (h : hexB zs = true) : ∃ l : List Nat, zs = ints l ∧ Row l ∧ inHex (timesL 2 l) = true ∧ inHex (addL (timesL 2 l) l) = true ∧ innerL 0 l l = 0 := by
  have h1 : rowB zs = true := (Bool.and_eq_true_iff.1 h).1
  obtain ⟨l, hl, rfl⟩ := rowB_row h1
  rw [hexB_row hl] at h
  obtain ⟨a, b, c, ha, hb, hc, e⟩ := (inHex_iff hl).1 h
  have := hexRow_two a ha b hb c hc
  rw [← e] at this
  exact ⟨l, rfl, hl, this⟩
theorem dig_two : dig 2 = true := by decide
theorem hex_pair {l m : List Nat} (hl : Row l) (hm : Row m) (h1 : inHex l = true) (h2 : inHex m = true) : hexB (ints (addL l m)) = true ∧ innerZ (ints l) (ints m) = 0 := by
  obtain ⟨a, b, c, ha, hb, hc, e⟩ := (inHex_iff hl).1 h1
  obtain ⟨a', b', c', ha', hb', hc', e'⟩ := (inHex_iff hm).1 h2
  have := hexRow_pair a ha b hb c hc a' ha' b' hb' c' hc'
  rw [← e, ← e'] at this
  rw [hexB_row (addL_row hl hm), innerZ_row hl hm, this.1, this.2]
  exact ⟨rfl, rfl⟩
theorem timesV_nat {a b : Nat} (ha : a < 4) (hb : b < 4) : timesV a b = ((times a b : Nat) : Int) := by
  have h1 : dig a = true := dig_iff.2 ⟨by omega, by omega⟩
  have h2 : dig b = true := dig_iff.2 ⟨by omega, by omega⟩
  simp [timesV, h1, h2]
theorem addV_nat {a b : Nat} (ha : a < 4) (hb : b < 4) : addV a b = ((a ^^^ b : Nat) : Int) := by
  have h1 : dig a = true := dig_iff.2 ⟨by omega, by omega⟩
  have h2 : dig b = true := dig_iff.2 ⟨by omega, by omega⟩
  simp [addV, h1, h2]
theorem near_facts {l : List Nat} (hl : Row l) : ∃ (m : List Nat) (t : Nat), Row m ∧ nearZ (ints l) = ints m ∧ nearT (ints l) = (t : Int) ∧ inHex m = true ∧ wt (addL m l) = t ∧ t ≤ 2 ∧ inHex l = decide (t = 0) := by
  obtain ⟨k, hk, e⟩ := near64 l
  have hR := rowK_row hk
  refine ⟨rowK k, farL (rowK k) l, hR, by rw [nearZ_row hl, e], by rw [nearT_row hl, e], hexRow_in _ _ _, farL_add hR hl, ?_, ?_⟩
  · have := near_two hl; rwa [e] at this
  · have := near_zero hl
    rw [e] at this
    rw [Bool.eq_iff_iff, decide_eq_true_eq]
    exact this.symm
end Go.Proofs.Ytahmophmdchiaaa
