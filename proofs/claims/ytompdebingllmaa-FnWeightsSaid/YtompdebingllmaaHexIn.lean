/- Contracts of the tests whether a row is in the hexacode, of both. No condition beyond those stated. -/
import Derived.Test.YtompdebingllmaaHexAdd
import Derived.Test.YtompdebingllmaaHexOf
import Derived.Test.YtompdebingllmaaEqual
import Derived.Deep.RegionHeld3
import Derived.Deep.QuietTactic
import Derived.BigQuiet
import Derived.WalkMore
namespace Go.Proofs.Ytompdebingllmaa
open Go.RowKit Gol
def hexB (zs : List Int) : Bool := rowB zs && inHex (zs.map Int.toNat)
theorem hexB_row {l : List Nat} (h : Row l) : hexB (ints l) = inHex l := by simp [hexB, row_rowB h, ints_toNat]
theorem ints_inj {l m : List Nat} : ints l = ints m ↔ l = m := ⟨fun h => by rw [← ints_toNat l, h, ints_toNat], fun h => by rw [h]⟩
theorem inHex_eqL (l : List Nat) : inHex l = eqL (ints l) (ints (hexRow (l.getD 0 0) (l.getD 1 0) (l.getD 2 0))) := by
  rw [Bool.eq_iff_iff]
  simp only [inHex, eqL, beq_iff_eq, decide_eq_true_eq, ints_inj]
theorem hexRow_len (p q r : Nat) : (ints (hexRow p q r)).length ≤ 1000000000000 := by simp [ints, hexRow]
theorem rowOk_true (v : Value) (W : World) (zs : List Int) (hB : rowB zs = true) (hl : zs.length ≤ 1048576) (hr : Rd W v zs) :
    Calls Try.prog 62 #[v] W fun e W' => e = .returned (.bool true) ∧ W' = W := by
  refine (rowOk_any v zs W hr hl).mono fun e w h => ⟨?_, h.2.symm⟩
  rw [← hB]; exact h.1
theorem quiet_rowOk (v : Value) (W : World) (n : Nat) (zs : List Int) (hB : rowB zs = false) (hl : zs.length ≤ 1048576) (hr : Rd W v zs) :
    Calls Try.prog 62 #[v] (W.drewN n) fun e W' => e = .returned (.bool false) ∧ ∃ m, W' = W.drewN m :=
  Calls.quiet_of_same ((rowOk_any v zs _ (hr.kept (below_drewN (Below.refl _ _) n)) hl).mono fun e w h => ⟨by rw [← hB]; exact h.1, h.2.symm⟩)
theorem hexOf_nat (p q r : Nat) (hp : p < 4) (hq : q < 4) (hr : r < 4) (W : World) :
    Calls Try.prog 69 #[.int .i64 p, .int .i64 q, .int .i64 r] W (RetOwns W.heap.size (ints (hexRow p q r)) W) :=
  hexOf_any p q r (by omega) (by omega) (by omega) (by omega) (by omega) (by omega) W
set_option maxHeartbeats 1000000 in
theorem implHexIn_any (v : Value) (zs : List Int) (W : World) (hr : Rd W v zs) (hl : zs.length ≤ 1048576) :
    Calls Try.prog 46 #[v] W fun e W' => e = .returned (.bool (hexB zs)) ∧ Below W.heap.size W W' := by
  have Hr := Lib.hid hr
  have Hl := Lib.hid hl
  clear hl
  by_cases hA : rowB zs = true
  · have HA := Lib.hid hA
    obtain ⟨l, b1, f1, c1, hl6, rfl, rfl, hlt1, hc1⟩ := rd_row hr hA
    rw [hexB_row hl6]
    have H6 := Lib.hid hl6
    have p0 := row_getD hl6 0 (by omega)
    have p1 := row_getD hl6 1 (by omega)
    have p2 := row_getD hl6 2 (by omega)
    have x0 := hc1 0 (by omega)
    rw [Nat.add_zero] at x0
    have x1 := hc1 1 (by omega)
    have x2 := hc1 2 (by omega)
    have HE : Hid (inHex l = eqL (ints l) (ints (hexRow (l.getD 0 0) (l.getD 1 0) (l.getD 2 0)))) := by
      have : inHex l = eqL (ints l) (ints (hexRow (l.getD 0 0) (l.getD 1 0) (l.getD 2 0))) := inHex_eqL l
      exact this
    rw [HE.out]
    generalize l.getD 0 0 = p at *
    generalize l.getD 1 0 = q at *
    generalize l.getD 2 0 = r at *
    clear hr hA hl6 hc1 HE
    go_enter Try.func46, Try.ntmps46
    have HL12 : Hid ((ints l).length ≤ 1000000000000) := Lib.hid (Nat.le_trans Hl.out (by decide))
    go_wp2_with fail
    go_region_held3 (fun w' => w'.cell? ⟨b1, f1, none⟩ = some (.int .i64 (p : Nat)) ∧ w'.cell? ⟨b1, f1 + 1, none⟩ = some (.int .i64 (q : Nat)) ∧ w'.cell? ⟨b1, f1 + 2, none⟩ = some (.int .i64 (r : Nat)))
      (first
        | go_keep
        | (go_split_ands
           refine ⟨?_, ?_, ?_⟩
           · (rw [hbw1.cell hlt1]; assumption)
           · (rw [hbw1.cell hlt1]; assumption)
           · (rw [hbw1.cell hlt1]; assumption))
        | (go_split_ands
           refine ⟨?_, ?_, ?_⟩
           · (rw [hbw2.cell (Nat.lt_of_lt_of_le hlt1 hbw1.size)]; assumption)
           · (rw [hbw2.cell (Nat.lt_of_lt_of_le hlt1 hbw1.size)]; assumption)
           · (rw [hbw2.cell (Nat.lt_of_lt_of_le hlt1 hbw1.size)]; assumption)))
      (first
        | (go_at_call 62; refine (rowOk_true _ _ (ints l) HA.out Hl.out (Hr.out.kept ((Below.refl _ _).drew))).mono ?_; rintro e w' ⟨rfl, rfl⟩)
        | (go_at_call 69; refine (hexOf_nat p q r p0 p1 p2 _).mono ?_; rintro e w1 ⟨a1, c1, rfl, ho1, hbw1⟩)
        | (go_at_call 68; refine (equal_any _ _ (ints l) (ints (hexRow p q r)) _ ((Hr.out.kept ((Below.refl _ _).drew)).kept hbw1) ho1.rd HL12.out (hexRow_len p q r)).mono ?_; rintro e w2 ⟨rfl, hbw2⟩))
    go_wp2
    go_ret
    have h1 : Below W.heap.size W w1 := ((Below.refl _ _).drew).trans hbw1
    exact ⟨rfl, h1.trans (hbw2.mono h1.size)⟩
  · have hA : rowB zs = false := by simpa using hA
    have hv : hexB zs = false := by simp [hexB, hA]
    obtain ⟨a1, c1, rfl⟩ := rd_form hr
    rw [hv]
    clear hv hr
    go_enter Try.func46, Try.ntmps46
    go_wp2
    go_quiet (first | (go_at_call 62; exact quiet_rowOk _ W _ zs hA Hl.out Hr.out))
    go_wp2
    go_ret
    exact ⟨rfl, below_drewN (Below.refl _ _) _⟩
theorem l2Row_true (v : Value) (W : World) (zs : List Int) (hB : rowB zs = true) (hl : zs.length ≤ 1048576) (hr : Rd W v zs) :
    Calls Try.prog 87 #[v] W fun e W' => e = .returned (.bool true) ∧ W' = W := by
  refine (l2Row_any v zs W hr hl).mono fun e w h => ⟨?_, h.2.symm⟩
  rw [← hB]; exact h.1
theorem quiet_l2Row (v : Value) (W : World) (n : Nat) (zs : List Int) (hB : rowB zs = false) (hl : zs.length ≤ 1048576) (hr : Rd W v zs) :
    Calls Try.prog 87 #[v] (W.drewN n) fun e W' => e = .returned (.bool false) ∧ ∃ m, W' = W.drewN m :=
  Calls.quiet_of_same ((l2Row_any v zs _ (hr.kept (below_drewN (Below.refl _ _) n)) hl).mono fun e w h => ⟨by rw [← hB]; exact h.1, h.2.symm⟩)
theorem l2Of_nat (p q r : Nat) (hp : p < 4) (hq : q < 4) (hr : r < 4) (W : World) :
    Calls Try.prog 76 #[.int .i64 p, .int .i64 q, .int .i64 r] W (RetOwns W.heap.size (ints (hexRow p q r)) W) :=
  l2Of_any p q r (by omega) (by omega) (by omega) (by omega) (by omega) (by omega) W
theorem same_rd (va vb : Value) (za zb : List Int) (W : World) (ha : Rd W va za) (hb : Rd W vb zb) (hla : za.length = 6) (hlb : zb.length = 6) :
    Calls Try.prog 88 #[va, vb] W fun e W' => e = .returned (.bool (eqL za zb)) ∧ Below W.heap.size W W' := by
  rcases ha with ⟨e, _⟩ | ⟨b1, o1, c1, rfl, h1, k1⟩
  · rw [e] at hla; exact absurd hla (by decide)
  rcases hb with ⟨e, _⟩ | ⟨b2, o2, c2, rfl, h2, k2⟩
  · rw [e] at hlb; exact absurd hlb (by decide)
  rw [hla, hlb]
  exact l2Same_any b1 o1 c1 b2 o2 c2 za zb W hla hlb h1 h2 (fun j hj => k1 j (by omega)) (fun j hj => k2 j (by omega))
set_option maxHeartbeats 1000000 in
theorem specHexIn_any (v : Value) (zs : List Int) (W : World) (hr : Rd W v zs) (hl : zs.length ≤ 1048576) :
    Calls Try.prog 81 #[v] W fun e W' => e = .returned (.bool (hexB zs)) ∧ Below W.heap.size W W' := by
  have Hr := Lib.hid hr
  have Hl := Lib.hid hl
  clear hl
  by_cases hA : rowB zs = true
  · have HA := Lib.hid hA
    obtain ⟨l, b1, f1, c1, hl6, rfl, rfl, hlt1, hc1⟩ := rd_row hr hA
    rw [hexB_row hl6]
    have H6 := Lib.hid hl6
    have p0 := row_getD hl6 0 (by omega)
    have p1 := row_getD hl6 1 (by omega)
    have p2 := row_getD hl6 2 (by omega)
    have x0 := hc1 0 (by omega)
    rw [Nat.add_zero] at x0
    have x1 := hc1 1 (by omega)
    have x2 := hc1 2 (by omega)
    have HE : Hid (inHex l = eqL (ints l) (ints (hexRow (l.getD 0 0) (l.getD 1 0) (l.getD 2 0)))) := by
      have : inHex l = eqL (ints l) (ints (hexRow (l.getD 0 0) (l.getD 1 0) (l.getD 2 0))) := inHex_eqL l
      exact this
    rw [HE.out]
    generalize l.getD 0 0 = p at *
    generalize l.getD 1 0 = q at *
    generalize l.getD 2 0 = r at *
    clear hr hA hl6 hc1 HE
    go_enter Try.func81, Try.ntmps81
    have HL6 : Hid ((ints l).length = 6) := Lib.hid (row_len H6.out)
    go_wp2_with fail
    go_region_held3 (fun w' => w'.cell? ⟨b1, f1, none⟩ = some (.int .i64 (p : Nat)) ∧ w'.cell? ⟨b1, f1 + 1, none⟩ = some (.int .i64 (q : Nat)) ∧ w'.cell? ⟨b1, f1 + 2, none⟩ = some (.int .i64 (r : Nat)))
      (first
        | go_keep
        | (go_split_ands
           refine ⟨?_, ?_, ?_⟩
           · (rw [hbw1.cell hlt1]; assumption)
           · (rw [hbw1.cell hlt1]; assumption)
           · (rw [hbw1.cell hlt1]; assumption))
        | (go_split_ands
           refine ⟨?_, ?_, ?_⟩
           · (rw [hbw2.cell (Nat.lt_of_lt_of_le hlt1 hbw1.size)]; assumption)
           · (rw [hbw2.cell (Nat.lt_of_lt_of_le hlt1 hbw1.size)]; assumption)
           · (rw [hbw2.cell (Nat.lt_of_lt_of_le hlt1 hbw1.size)]; assumption)))
      (first
        | (go_at_call 87; refine (l2Row_true _ _ (ints l) HA.out Hl.out (Hr.out.kept ((Below.refl _ _).drew))).mono ?_; rintro e w' ⟨rfl, rfl⟩)
        | (go_at_call 76; refine (l2Of_nat p q r p0 p1 p2 _).mono ?_; rintro e w1 ⟨a1, c1, rfl, ho1, hbw1⟩)
        | (go_at_call 88; refine (same_rd _ _ (ints l) (ints (hexRow p q r)) _ ((Hr.out.kept ((Below.refl _ _).drew)).kept hbw1) ho1.rd HL6.out rfl).mono ?_; rintro e w2 ⟨rfl, hbw2⟩))
    go_wp2
    go_ret
    have h1 : Below W.heap.size W w1 := ((Below.refl _ _).drew).trans hbw1
    exact ⟨rfl, h1.trans (hbw2.mono h1.size)⟩
  · have hA : rowB zs = false := by simpa using hA
    have hv : hexB zs = false := by simp [hexB, hA]
    obtain ⟨a1, c1, rfl⟩ := rd_form hr
    rw [hv]
    clear hv hr
    go_enter Try.func81, Try.ntmps81
    go_wp2
    go_quiet (first | (go_at_call 87; exact quiet_l2Row _ W _ zs hA Hl.out Hr.out))
    go_wp2
    go_ret
    exact ⟨rfl, below_drewN (Below.refl _ _) _⟩
end Go.Proofs.Ytompdebingllmaa
