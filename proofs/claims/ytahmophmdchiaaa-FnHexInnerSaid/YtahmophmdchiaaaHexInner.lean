/- Contracts of inner products of rows, of both. No condition beyond those stated. -/
import Derived.Test.YtahmophmdchiaaaHexAdd
import Derived.Deep.QuietTactic
import Derived.BigQuiet
import Derived.WalkMore
namespace Go.Proofs.Ytahmophmdchiaaa
open Go.RowKit Gol
/-- what HexInner hands back -/
def innerZ (za zb : List Int) : Int := if rowB za && rowB zb then ((innerL 0 (za.map Int.toNat) (zb.map Int.toNat) : Nat) : Int) else -1
theorem innerZ_row {l m : List Nat} (hl : Row l) (hm : Row m) : innerZ (ints l) (ints m) = (innerL 0 l m : Nat) := by simp [innerZ, row_rowB hl, row_rowB hm, ints_toNat]
theorem inner_drop (s : Nat) {l m : List Nat} (k : Nat) (hl : k < l.length) (hm : k < m.length) : innerL s (l.drop k) (m.drop k) = innerL (s ^^^ times (l.getD k 0) (times (m.getD k 0) (m.getD k 0))) (l.drop (k + 1)) (m.drop (k + 1)) := by
  rw [List.drop_eq_getElem_cons hl, List.drop_eq_getElem_cons hm]
  simp [innerL, List.getD, hl, hm]
theorem mirror_any (a : Int) (a0 : 0 ≤ a) (a1 : a < 4) (W : World) :
    Calls Try.prog 63 #[.int .i64 a] W fun e W' => e = .returned (.int .i64 (times a.toNat a.toNat)) ∧ W = W' := by
  go_enter Try.func63, Try.ntmps63
  go_wp2_with fail
  refine (times_any _ _ a0 a1 a0 a1 _).mono ?_
  rintro e w1 ⟨rfl, rfl⟩
  go_wp2
  go_ret
  exact ⟨rfl, rfl⟩
theorem quiet_times (a b : Nat) (ha : a < 4) (hb : b < 4) (W : World) (n : Nat) :
    Calls Try.prog 56 #[.int .i64 a, .int .i64 b] (W.drewN n) fun e w' => e = .returned (.int .i64 (times a b : Nat)) ∧ ∃ m, w' = W.drewN m :=
  Calls.quiet_of_same ((times_any a b (by omega) (by omega) (by omega) (by omega) _).mono fun e w' h => ⟨h.1, h.2.symm⟩)
theorem quiet_mirror (a : Nat) (ha : a < 4) (W : World) (n : Nat) :
    Calls Try.prog 63 #[.int .i64 a] (W.drewN n) fun e w' => e = .returned (.int .i64 (times a a : Nat)) ∧ ∃ m, w' = W.drewN m :=
  Calls.quiet_of_same ((mirror_any a (by omega) (by omega) _).mono fun e w' h => ⟨h.1, h.2.symm⟩)
theorem quiet_l2Times (a b : Nat) (ha : a < 4) (hb : b < 4) (W : World) (n : Nat) :
    Calls Try.prog 55 #[.int .i64 a, .int .i64 b] (W.drewN n) fun e w' => e = .returned (.int .i64 (times a b : Nat)) ∧ ∃ m, w' = W.drewN m :=
  Calls.quiet_of_same ((l2Times_any a b (by omega) (by omega) (by omega) (by omega) _).mono fun e w' h => ⟨h.1, h.2.symm⟩)
set_option maxHeartbeats 1000000 in
theorem implHexInner_any (va vb : Value) (za zb : List Int) (W : World) (ha : Rd W va za) (hb : Rd W vb zb) (hla : za.length ≤ 1048576) (hlb : zb.length ≤ 1048576) :
    Calls Try.prog 36 #[va, vb] W fun e W' => e = .returned (.int .i64 (innerZ za zb)) ∧ Below W.heap.size W W' := by
  have Ha := Lib.hid ha
  have Hb := Lib.hid hb
  have Hla := Lib.hid hla
  have Hlb := Lib.hid hlb
  clear hla hlb
  by_cases hA : rowB za = true
  · have HA := Lib.hid hA
    by_cases hB : rowB zb = true
    · have HB := Lib.hid hB
      obtain ⟨l, b1, f1, c1, hl, rfl, rfl, hlt1, hc1⟩ := rd_row ha hA
      obtain ⟨m, b2, f2, c2, hm, rfl, rfl, hlt2, hc2⟩ := rd_row hb hB
      rw [innerZ_row hl hm]
      have Hl := Lib.hid hl
      have Hm := Lib.hid hm
      have Hc1 := Lib.hid hc1
      have Hc2 := Lib.hid hc2
      obtain ⟨R, HR⟩ : ∃ R, Hid (innerL 0 l m = R) := ⟨_, Lib.hid rfl⟩
      rw [HR.out]
      clear ha hb hA hB hl hm hc1 hc2
      go_enter Try.func36, Try.ntmps36
      go_wp2_with fail
      refine (rowOk_any _ _ _ Ha.out Hla.out).mono ?_
      rintro e w1 ⟨rfl, rfl⟩
      rw [HA.out]
      go_wp2_with fail
      refine (rowOk_any _ _ _ Hb.out Hlb.out).mono ?_
      rintro e w1 ⟨rfl, rfl⟩
      rw [HB.out]
      go_wp2
      go_loopw [5, 6, 17] (fun o u6 i wr => ∃ k s : Nat, k ≤ 6 ∧ i = .int .i64 k ∧ o = .int .i64 s ∧ s < 4 ∧ innerL s (l.drop k) (m.drop k) = R ∧ Below W.heap.size W wr) (fun _ _ i _ => 6 - (intOf i).toNat)
      case atStart => exact ⟨0, 0, by omega, rfl, rfl, by omega, HR.out, Below.refl _ _⟩
      case round =>
        obtain ⟨k, s, hk, rfl, rfl, hs4, heq, hbel⟩ := hrel
        have Heq := Lib.hid heq
        clear heq
        by_cases hlt : k < 6
        · have hx1 := (hbel.cell (p := ⟨b1, f1 + k, none⟩) hlt1).trans (Hc1.out k hlt)
          have hx2 := (hbel.cell (p := ⟨b2, f2 + k, none⟩) hlt2).trans (Hc2.out k hlt)
          have hq1 := row_getD Hl.out k hlt
          have hq2 := row_getD Hm.out k hlt
          have hd := inner_drop s (l := l) (m := m) k (by rw [Hl.out.1]; exact hlt) (by rw [Hm.out.1]; exact hlt)
          rw [Heq.out] at hd
          generalize l.getD k 0 = p at hx1 hq1 hd
          generalize m.getD k 0 = q at hx2 hq2 hd
          have t1 := times_lt q hq2 q hq2
          have t2 := times_lt p hq1 _ t1
          have x4 := xor_lt4 hs4 t2
          have hx := i64_xor s (times p (times q q)) (by omega) (by omega)
          have Hd := Lib.hid hd
          have X4 := Lib.hid x4
          clear hd x4 hs4
          go_wp2
          go_quiet (first | (go_at_call 63; exact quiet_mirror _ (by omega) _ _) | (go_at_call 56; exact quiet_times _ _ (by omega) (by omega) _ _))
          go_wp2
          have hbel' := below_drewN hbel
          go_roundw
          case rel => exact ⟨k + 1, _, by omega, by go_num, rfl, X4.out, Hd.out.symm, hbel' _⟩
          case measure => simp [intOf]; omega
        · have e : k = 6 := by omega
          subst e
          have h6 : s = R := by
            have := Heq.out
            rw [List.drop_of_length_le (by rw [Hl.out.1]; exact Nat.le_refl _)] at this
            simpa [innerL] using this
          subst h6
          go_wp2
          go_ret
          exact ⟨rfl, hbel⟩
    · have hB : rowB zb = false := by simpa using hB
      have hv : innerZ za zb = -1 := by simp [innerZ, hB]
      obtain ⟨a1, c1, rfl⟩ := rd_form ha
      obtain ⟨a2, c2, rfl⟩ := rd_form hb
      clear ha hb
      rw [hv]
      clear hv
      go_enter Try.func36, Try.ntmps36
      go_wp2_with fail
      refine (rowOk_any _ _ _ Ha.out Hla.out).mono ?_
      rintro e w1 ⟨rfl, rfl⟩
      rw [HA.out]
      go_wp2_with fail
      refine (rowOk_any _ _ _ Hb.out Hlb.out).mono ?_
      rintro e w1 ⟨rfl, rfl⟩
      rw [hB]
      go_wp2
      go_ret
      exact ⟨rfl, Below.refl _ _⟩
  · have hA : rowB za = false := by simpa using hA
    have hv : innerZ za zb = -1 := by simp [innerZ, hA]
    obtain ⟨a1, c1, rfl⟩ := rd_form ha
    obtain ⟨a2, c2, rfl⟩ := rd_form hb
    clear ha hb
    rw [hv]
    clear hv
    go_enter Try.func36, Try.ntmps36
    go_wp2_with fail
    refine (rowOk_any _ _ _ Ha.out Hla.out).mono ?_
    rintro e w1 ⟨rfl, rfl⟩
    rw [hA]
    go_wp2
    go_ret
    exact ⟨rfl, Below.refl _ _⟩
set_option maxHeartbeats 1000000 in
theorem specHexInner_any (va vb : Value) (za zb : List Int) (W : World) (ha : Rd W va za) (hb : Rd W vb zb) (hla : za.length ≤ 1048576) (hlb : zb.length ≤ 1048576) :
    Calls Try.prog 35 #[va, vb] W fun e W' => e = .returned (.int .i64 (innerZ za zb)) ∧ Below W.heap.size W W' := by
  have Ha := Lib.hid ha
  have Hb := Lib.hid hb
  have Hla := Lib.hid hla
  have Hlb := Lib.hid hlb
  clear hla hlb
  by_cases hA : rowB za = true
  · have HA := Lib.hid hA
    by_cases hB : rowB zb = true
    · have HB := Lib.hid hB
      obtain ⟨l, b1, f1, c1, hl, rfl, rfl, hlt1, hc1⟩ := rd_row ha hA
      obtain ⟨m, b2, f2, c2, hm, rfl, rfl, hlt2, hc2⟩ := rd_row hb hB
      rw [innerZ_row hl hm]
      have Hl := Lib.hid hl
      have Hm := Lib.hid hm
      have Hc1 := Lib.hid hc1
      have Hc2 := Lib.hid hc2
      obtain ⟨R, HR⟩ : ∃ R, Hid (innerL 0 l m = R) := ⟨_, Lib.hid rfl⟩
      rw [HR.out]
      clear ha hb hA hB hl hm hc1 hc2
      go_enter Try.func35, Try.ntmps35
      go_wp2_with fail
      refine (l2Row_any _ _ _ Ha.out Hla.out).mono ?_
      rintro e w1 ⟨rfl, rfl⟩
      rw [HA.out]
      go_wp2_with fail
      refine (l2Row_any _ _ _ Hb.out Hlb.out).mono ?_
      rintro e w1 ⟨rfl, rfl⟩
      rw [HB.out]
      go_wp2
      go_loopw [5, 6] (fun o i wr => ∃ k s : Nat, k ≤ 6 ∧ i = .int .i64 k ∧ o = .int .i64 s ∧ s < 4 ∧ innerL s (l.drop k) (m.drop k) = R ∧ Below W.heap.size W wr) (fun _ i _ => 6 - (intOf i).toNat)
      case atStart => exact ⟨0, 0, by omega, rfl, rfl, by omega, HR.out, Below.refl _ _⟩
      case round =>
        obtain ⟨k, s, hk, rfl, rfl, hs4, heq, hbel⟩ := hrel
        have Heq := Lib.hid heq
        clear heq
        by_cases hlt : k < 6
        · have hx1 := (hbel.cell (p := ⟨b1, f1 + k, none⟩) hlt1).trans (Hc1.out k hlt)
          have hx2 := (hbel.cell (p := ⟨b2, f2 + k, none⟩) hlt2).trans (Hc2.out k hlt)
          have hq1 := row_getD Hl.out k hlt
          have hq2 := row_getD Hm.out k hlt
          have hd := inner_drop s (l := l) (m := m) k (by rw [Hl.out.1]; exact hlt) (by rw [Hm.out.1]; exact hlt)
          rw [Heq.out] at hd
          generalize l.getD k 0 = p at hx1 hq1 hd
          generalize m.getD k 0 = q at hx2 hq2 hd
          have t1 := times_lt q hq2 q hq2
          have t2 := times_lt p hq1 _ t1
          have x4 := xor_lt4 hs4 t2
          have hx := i64_xor s (times p (times q q)) (by omega) (by omega)
          have Hd := Lib.hid hd
          have X4 := Lib.hid x4
          clear hd x4 hs4
          go_wp2
          go_quiet (first | (go_at_call 55; exact quiet_l2Times _ _ (by omega) (by omega) _ _))
          go_wp2
          have hbel' := below_drewN hbel
          go_roundw
          case rel => exact ⟨k + 1, _, by omega, by go_num, rfl, X4.out, Hd.out.symm, hbel' _⟩
          case measure => simp [intOf]; omega
        · have e : k = 6 := by omega
          subst e
          have h6 : s = R := by
            have := Heq.out
            rw [List.drop_of_length_le (by rw [Hl.out.1]; exact Nat.le_refl _)] at this
            simpa [innerL] using this
          subst h6
          go_wp2
          go_ret
          exact ⟨rfl, hbel⟩
    · have hB : rowB zb = false := by simpa using hB
      have hv : innerZ za zb = -1 := by simp [innerZ, hB]
      obtain ⟨a1, c1, rfl⟩ := rd_form ha
      obtain ⟨a2, c2, rfl⟩ := rd_form hb
      clear ha hb
      rw [hv]
      clear hv
      go_enter Try.func35, Try.ntmps35
      go_wp2_with fail
      refine (l2Row_any _ _ _ Ha.out Hla.out).mono ?_
      rintro e w1 ⟨rfl, rfl⟩
      rw [HA.out]
      go_wp2_with fail
      refine (l2Row_any _ _ _ Hb.out Hlb.out).mono ?_
      rintro e w1 ⟨rfl, rfl⟩
      rw [hB]
      go_wp2
      go_ret
      exact ⟨rfl, Below.refl _ _⟩
  · have hA : rowB za = false := by simpa using hA
    have hv : innerZ za zb = -1 := by simp [innerZ, hA]
    obtain ⟨a1, c1, rfl⟩ := rd_form ha
    obtain ⟨a2, c2, rfl⟩ := rd_form hb
    clear ha hb
    rw [hv]
    clear hv
    go_enter Try.func35, Try.ntmps35
    go_wp2_with fail
    refine (l2Row_any _ _ _ Ha.out Hla.out).mono ?_
    rintro e w1 ⟨rfl, rfl⟩
    rw [hA]
    go_wp2
    go_ret
    exact ⟨rfl, Below.refl _ _⟩
end Go.Proofs.Ytahmophmdchiaaa
