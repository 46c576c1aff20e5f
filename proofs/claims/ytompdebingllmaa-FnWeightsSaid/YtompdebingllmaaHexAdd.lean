/- Contracts of sums of rows and of products of a row with a digit, of both. No condition beyond those stated. -/
import Derived.Test.YtompdebingllmaaHexW
import Derived.Test.YtompdebingllmaaAppW
namespace Go.Proofs.Ytompdebingllmaa
open Go.RowKit Gol
theorem rd_row {W : World} {v : Value} {zs : List Int} (hr : Rd W v zs) (hB : rowB zs = true) :
    ∃ l b off cap, Row l ∧ zs = ints l ∧ v = .slice (some ⟨b, off, none⟩) 6 cap ∧ b < W.heap.size ∧ ∀ k, k < 6 → W.cell? ⟨b, off + k, none⟩ = some (.int .i64 (l.getD k 0 : Nat)) := by
  obtain ⟨l, hl, rfl⟩ := rowB_row hB
  have hlen : (ints l).length = 6 := by rw [ints_length]; exact hl.1
  rcases hr with ⟨e, _⟩ | ⟨b, off, cap, rfl, hb, hc⟩
  · rw [e] at hlen; exact absurd hlen (by decide)
  · exact ⟨l, b, off, cap, hl, rfl, by rw [hlen], hb, fun k hk => by rw [hc k (by omega), ints_getD]⟩
theorem rd_form {W : World} {v : Value} {zs : List Int} (hr : Rd W v zs) : ∃ a cap, v = .slice a zs.length cap := by
  rcases hr with ⟨e, a, cap, rfl⟩ | ⟨b, off, cap, rfl, _⟩
  · exact ⟨a, cap, by rw [e]; rfl⟩
  · exact ⟨_, cap, rfl⟩
theorem row_getD {l : List Nat} (h : Row l) (k : Nat) (hk : k < 6) : l.getD k 0 < 4 := by
  have hk' : k < l.length := by rw [h.1]; exact hk
  simp only [List.getD, List.getElem?_eq_getElem hk', Option.getD_some]
  exact h.2 _ (List.getElem_mem _)
theorem row_len {l : List Nat} (h : Row l) : (ints l).length = 6 := by rw [ints_length]; exact h.1
theorem addL_take {l m : List Nat} (hl : Row l) (hm : Row m) (k : Nat) (hk : k < 6) : ints ((addL l m).take (k + 1)) = ints ((addL l m).take k) ++ [((l.getD k 0 ^^^ m.getD k 0 : Nat) : Int)] := by
  obtain ⟨a, b, c, d, e, f, rfl, _⟩ := row_cases hl
  obtain ⟨a', b', c', d', e', f', rfl, _⟩ := row_cases hm
  match k, hk with
  | 0, _ => rfl
  | 1, _ => rfl
  | 2, _ => rfl
  | 3, _ => rfl
  | 4, _ => rfl
  | 5, _ => rfl
theorem timesL_take {l : List Nat} (n : Nat) (hl : Row l) (k : Nat) (hk : k < 6) : ints ((timesL n l).take (k + 1)) = ints ((timesL n l).take k) ++ [((times (l.getD k 0) n : Nat) : Int)] := by
  obtain ⟨a, b, c, d, e, f, rfl, _⟩ := row_cases hl
  match k, hk with
  | 0, _ => rfl
  | 1, _ => rfl
  | 2, _ => rfl
  | 3, _ => rfl
  | 4, _ => rfl
  | 5, _ => rfl
theorem ints_take_len (l : List Nat) (k : Nat) : (ints (l.take k)).length ≤ k := by rw [ints_length, List.length_take]; omega
/-- what HexAdd and HexTimes hand back -/
def addZ (za zb : List Int) : List Int := if rowB za && rowB zb then ints (addL (za.map Int.toNat) (zb.map Int.toNat)) else []
def timesZ (za : List Int) (n : Int) : List Int := if rowB za && dig n then ints (timesL n.toNat (za.map Int.toNat)) else []
theorem addZ_len (za zb : List Int) : (addZ za zb).length ≤ 1000000000000 := by
  by_cases h : rowB za = true
  · by_cases h' : rowB zb = true
    · obtain ⟨l, hl, rfl⟩ := rowB_row h
      obtain ⟨m, hm, rfl⟩ := rowB_row h'
      simp [addZ, row_rowB hl, row_rowB hm, ints_toNat, ints_length, (addL_row hl hm).1]
    · simp [addZ, h']
  · simp [addZ, h]
theorem timesZ_len (za : List Int) (n : Int) : (timesZ za n).length ≤ 1000000000000 := by
  by_cases h : rowB za = true
  · by_cases h' : dig n = true
    · obtain ⟨l, hl, rfl⟩ := rowB_row h
      simp [timesZ, row_rowB hl, h', ints_toNat, ints_length, timesL, hl.1]
    · simp [timesZ, h']
  · simp [timesZ, h]
theorem addZ_row {l m : List Nat} (hl : Row l) (hm : Row m) : addZ (ints l) (ints m) = ints (addL l m) := by simp [addZ, row_rowB hl, row_rowB hm, ints_toNat]
theorem timesZ_row {l : List Nat} (hl : Row l) (n : Nat) (hn : n < 4) : timesZ (ints l) n = ints (timesL n l) := by
  have : dig n = true := dig_iff.2 ⟨by omega, by omega⟩
  simp [timesZ, row_rowB hl, this, ints_toNat]
set_option maxHeartbeats 1000000 in
theorem implHexAdd_any (va vb : Value) (za zb : List Int) (W : World) (ha : Rd W va za) (hb : Rd W vb zb) (hla : za.length ≤ 1048576) (hlb : zb.length ≤ 1048576) :
    Calls Try.prog 37 #[va, vb] W (RetOwns2 W.heap.size (addZ za zb) (rowB za && rowB zb) W) := by
  have Ha := Lib.hid ha
  have Hb := Lib.hid hb
  have Hla := Lib.hid hla
  have Hlb := Lib.hid hlb
  clear hla hlb
  by_cases hA : rowB za = true
  · have HA := Lib.hid hA
    by_cases hB : rowB zb = true
    · have HB := Lib.hid hB
      obtain ⟨l, b1, f1, c1, hl, rfl, rfl, hlt1, hc1⟩ := rd_row ha hA
      obtain ⟨m, b2, f2, c2, hm, rfl, rfl, hlt2, hc2⟩ := rd_row hb hB
      rw [hA, hB, addZ_row hl hm, Bool.and_self]
      have Hl := Lib.hid hl
      have Hm := Lib.hid hm
      have Hc1 := Lib.hid hc1
      have Hc2 := Lib.hid hc2
      clear ha hb hA hB hl hm hc1 hc2
      go_enter Try.func37, Try.ntmps37
      go_wp2_with fail
      refine (rowOk_any _ _ _ (Ha.out.kept ((Below.refl _ _).alloc (Nat.le_refl _) _)) Hla.out).mono ?_
      rintro e w1 ⟨rfl, rfl⟩
      rw [HA.out]
      go_wp2_with fail
      refine (rowOk_any _ _ _ (Hb.out.kept ((Below.refl _ _).alloc (Nat.le_refl _) _)) Hlb.out).mono ?_
      rintro e w1 ⟨rfl, rfl⟩
      rw [HB.out]
      go_wp2
      go_loopw [6, 7, 20] (fun o u7 i wr => ∃ k : Nat, k ≤ 6 ∧ i = .int .i64 k ∧ Owns wr W.heap.size o (ints ((addL l m).take k)) ∧ Below W.heap.size W wr) (fun _ _ i _ => 6 - (intOf i).toNat)
      case atStart => exact ⟨0, by omega, rfl, Owns.made _ _ (Nat.le_refl _), (Below.refl _ _).alloc (Nat.le_refl _) _⟩
      case round =>
        obtain ⟨k, hk, rfl, hown, hbel⟩ := hrel
        by_cases hlt : k < 6
        · have hx1 := (hbel.cell (p := ⟨b1, f1 + k, none⟩) hlt1).trans (Hc1.out k hlt)
          have hx2 := (hbel.cell (p := ⟨b2, f2 + k, none⟩) hlt2).trans (Hc2.out k hlt)
          have hq1 := row_getD Hl.out k hlt
          have hq2 := row_getD Hm.out k hlt
          have Hs := Lib.hid (addL_take Hl.out Hm.out k hlt)
          generalize l.getD k 0 = p at hx1 hq1 Hs
          generalize m.getD k 0 = q at hx2 hq2 Hs
          have hx := i64_xor p q (by omega) (by omega)
          have hlen : Hid ((ints ((addL l m).take k)).length ≤ 1000000) := by
            have : (ints ((addL l m).take k)).length ≤ 1000000 := Nat.le_trans (ints_take_len _ _) (by omega)
            exact this
          clear hq1 hq2
          go_wp2_with fail
          go_region_held3 (fun w' => w'.cell? ⟨b1, f1 + k, none⟩ = some (.int .i64 (p : Nat)) ∧ w'.cell? ⟨b2, f2 + k, none⟩ = some (.int .i64 (q : Nat)))
            (first
              | go_keep
              | (go_split_ands
                 refine ⟨?_, ?_⟩
                 · (rw [hbw1.cell hlt1]; assumption)
                 · (rw [hbw1.cell hlt2]; assumption)))
            ((refine step_append_int (by rfl) _ _ (by rfl) W W.heap.size _ _ ((p ^^^ q : Nat) : Int) wr.heap.size (by rfl) (by rfl) ((hown.alloc _).drew) (one_cell wr _ _ 0 _ rfl) ((hbel.alloc hbel.size _).drew) (Nat.le_refl _) hlen.out ?_; intro v1 w1 hown1 hbel1 hbw1))
          go_wp2
          go_roundw
          case rel => exact ⟨k + 1, by omega, by go_num, by rw [Hs.out]; exact hown1, hbel1⟩
          case measure => simp [intOf]; omega
        · have e : k = 6 := by omega
          subst e
          have h6 : Hid ((addL l m).take 6 = addL l m) := by
            have : (addL l m).take 6 = addL l m := List.take_of_length_le (by rw [(addL_row Hl.out Hm.out).1]; exact Nat.le_refl _)
            exact this
          rw [h6.out] at hown
          go_wp2
          go_ret2
          exact RetOwns2.mk hown hbel
    · have hB : rowB zb = false := by simpa using hB
      have hv : addZ za zb = [] := by simp [addZ, hB]
      rw [hA, hB]
      obtain ⟨a1, c1, rfl⟩ := rd_form ha
      obtain ⟨a2, c2, rfl⟩ := rd_form hb
      clear ha hb
      have Hz := Lib.hid hv
      clear hv
      rw [Hz.out]
      go_enter Try.func37, Try.ntmps37
      go_wp2_with fail
      refine (rowOk_any _ _ _ (Ha.out.kept ((Below.refl _ _).alloc (Nat.le_refl _) _)) Hla.out).mono ?_
      rintro e w1 ⟨rfl, rfl⟩
      rw [HA.out]
      go_wp2_with fail
      refine (rowOk_any _ _ _ (Hb.out.kept ((Below.refl _ _).alloc (Nat.le_refl _) _)) Hlb.out).mono ?_
      rintro e w1 ⟨rfl, rfl⟩
      rw [hB]
      go_wp2
      go_ret2
      exact RetOwns2.mk (Owns.made _ _ (Nat.le_refl _)) ((Below.refl _ _).alloc (Nat.le_refl _) _)
  · have hA : rowB za = false := by simpa using hA
    have hv : addZ za zb = [] := by simp [addZ, hA]
    rw [hA]
    obtain ⟨a1, c1, rfl⟩ := rd_form ha
    obtain ⟨a2, c2, rfl⟩ := rd_form hb
    clear ha hb
    have Hz := Lib.hid hv
    clear hv
    rw [Hz.out]
    go_enter Try.func37, Try.ntmps37
    go_wp2_with fail
    refine (rowOk_any _ _ _ (Ha.out.kept ((Below.refl _ _).alloc (Nat.le_refl _) _)) Hla.out).mono ?_
    rintro e w1 ⟨rfl, rfl⟩
    rw [hA]
    go_wp2
    go_ret2
    exact RetOwns2.mk (Owns.made _ _ (Nat.le_refl _)) ((Below.refl _ _).alloc (Nat.le_refl _) _)
end Go.Proofs.Ytompdebingllmaa
