/- Contracts of the search for the nearest row, of both. No condition beyond those stated. -/
import Derived.Test.YtahmophmdchiaaaHexIn
namespace Go.Proofs.Ytahmophmdchiaaa
open Go.RowKit Gol
def RetOwns3 (B : Nat) (zs : List Int) (t : Int) (ok : Bool) (w : World) (e : Ending) (w' : World) : Prop := ∃ a cap, e = .returned (.tuple #[.slice a zs.length cap, .int .i64 t, .bool ok]) ∧ Owns w' B (.slice a zs.length cap) zs ∧ Below B w w'
theorem RetOwns3.mk {w w' : World} {B : Nat} {v : Value} {zs : List Int} {t : Int} {ok : Bool} (h : Owns w' B v zs) (hb : Below B w w') : RetOwns3 B zs t ok w (.returned (.tuple #[v, .int .i64 t, .bool ok])) w' := by
  obtain ⟨a, cap, rfl⟩ := h.form
  exact ⟨a, cap, rfl, h, hb⟩
def nearZ (zs : List Int) : List Int := if rowB zs then ints (nearK (zs.map Int.toNat) 64).1 else []
def nearT (zs : List Int) : Int := if rowB zs then ((nearK (zs.map Int.toNat) 64).2 : Nat) else 0
theorem nearZ_row {l : List Nat} (h : Row l) : nearZ (ints l) = ints (nearK l 64).1 := by simp [nearZ, row_rowB h, ints_toNat]
theorem nearT_row {l : List Nat} (h : Row l) : nearT (ints l) = ((nearK l 64).2 : Nat) := by simp [nearT, row_rowB h, ints_toNat]
theorem nearZ_len (zs : List Int) : (nearZ zs).length ≤ 1000000000000 := by
  by_cases h : rowB zs = true
  · obtain ⟨l, hl, rfl⟩ := rowB_row h
    rw [nearZ_row hl]
    obtain ⟨k, hk, e⟩ := near64 l
    rw [e, ints_length, (rowK_row hk).1]
    decide
  · simp [nearZ, h]
theorem far_drop (r l : List Nat) (k : Nat) (hr : k < r.length) (hl : k < l.length) : farL (r.drop k) (l.drop k) = (if r.getD k 0 ≠ l.getD k 0 then 1 else 0) + farL (r.drop (k + 1)) (l.drop (k + 1)) := by
  rw [List.drop_eq_getElem_cons hr, List.drop_eq_getElem_cons hl]
  simp [farL, List.getD, hr, hl]
theorem rowK_int (k : Nat) : hexRow ((k : Int) / 16).toNat ((k : Int) / 4 % 4).toNat ((k : Int) % 4).toNat = rowK k := by
  have h1 : ((k : Int) / 16).toNat = k / 16 := by omega
  have h2 : ((k : Int) / 4 % 4).toNat = k / 4 % 4 := by omega
  have h3 : ((k : Int) % 4).toNat = k % 4 := by omega
  rw [h1, h2, h3]; rfl
theorem nearK_two (l : List Nat) (k : Nat) : (nearK l k).2 ≤ 7 := by
  rcases nearK_is l k with h | ⟨j, _, h⟩
  · rw [h]; exact Nat.le_refl _
  · rw [h]
    have := farL_le (rowK j) l
    have h6 : (rowK j).length = 6 := rfl
    simp only
    omega
set_option maxHeartbeats 2000000 in
theorem implHexNear_any (v : Value) (zs : List Int) (W : World) (hr : Rd W v zs) (hl : zs.length ≤ 1048576) :
    Calls Try.prog 48 #[v] W (RetOwns3 W.heap.size (nearZ zs) (nearT zs) (rowB zs) W) := by
  have Hr := Lib.hid hr
  have Hl := Lib.hid hl
  clear hl
  by_cases hA : rowB zs = true
  · have HA := Lib.hid hA
    obtain ⟨l, b1, f1, c1, hl6, rfl, rfl, hlt1, hc1⟩ := rd_row hr hA
    rw [nearZ_row hl6, nearT_row hl6, hA]
    have H6 := Lib.hid hl6
    have Hc1 := Lib.hid hc1
    clear hr hA hl6 hc1
    go_enter Try.func48, Try.ntmps48
    go_wp2_with fail
    refine (rowOk_any _ _ _ Hr.out Hl.out).mono ?_
    rintro e w1 ⟨rfl, rfl⟩
    rw [HA.out]
    go_wp2
    go_loopw [5, 6, 16] (fun best least i wr => ∃ k : Nat, k ≤ 64 ∧ i = .int .i64 k ∧ least = .int .i64 ((nearK l k).2 : Nat) ∧ Owns wr W.heap.size best (ints (nearK l k).1) ∧ Below W.heap.size W wr) (fun _ _ i _ => 64 - (intOf i).toNat)
    case atStart => exact ⟨0, by omega, rfl, rfl, Owns.made _ _ (Nat.le_refl _), (Below.refl _ _).alloc (Nat.le_refl _) _⟩
    case round =>
      obtain ⟨k, hk, rfl, rfl, hown, hbel⟩ := hrel
      have Hown := Lib.hid hown
      have Hbel := Lib.hid hbel
      have Htwo := Lib.hid (nearK_two l k)
      clear hown
      by_cases hlt : k < 64
      · have e1 : Hid (hexRow ((k : Int) / 16).toNat ((k : Int) / 4 % 4).toNat ((k : Int) % 4).toNat = rowK k) := Lib.hid (rowK_int k)
        have Hs : Hid (nearK l (k + 1) = if farL (rowK k) l < (nearK l k).2 then (rowK k, farL (rowK k) l) else nearK l k) := Lib.hid rfl
        have H6' : Hid (farL (rowK k) l ≤ 6) := Lib.hid (farL_le (rowK k) l)
        go_wp2_with (first | (go_at_call 62; refine (hexOf_any _ _ _ (by omega) (by omega) (by omega) (by omega) (by omega) (by omega) _).mono ?_; rintro e w1 ⟨ar, cr, rfl, ho1, hb1⟩; rw [e1.out] at ho1 ⊢) | go_in)
        have h6 : (ints (rowK k)).length = 6 := rfl
        rw [h6] at ho1 ⊢
        obtain ⟨g, rfl, hgB, hgl, hcr⟩ := ho1.head (by rw [h6]; decide)
        have Hcr : Hid (∀ j, j < 6 → w1.cell? ⟨g, j, none⟩ = some (.int .i64 ((rowK k).getD j 0 : Nat))) := Lib.hid (fun j hj => by rw [hcr j (by rw [h6]; exact hj), ints_getD])
        have Hb0 : Hid (Below W.heap.size W w1) := Lib.hid (Hbel.out.trans (hb1.mono Hbel.out.size))
        have Hrow : Hid (Row (rowK k)) := Lib.hid (rowK_row hlt)
        have Ho1 := Lib.hid (ho1.base Hbel.out.size)
        have Hown1 := Lib.hid (Hown.out.kept hb1)
        clear hcr ho1 hb1 hbel Hown Hbel h6
        generalize hF : farL (rowK k) l = F at Hs H6'
        generalize hd : (nearK l k).2 = d at Hs Htwo
        have HF := Lib.hid hF
        have Hd := Lib.hid hd
        clear hF hd
        go_loopw [9, 29] (fun far j w2 => ∃ i t : Nat, i ≤ 6 ∧ j = .int .i64 i ∧ far = .int .i64 t ∧ t ≤ i ∧ t + farL ((rowK k).drop i) (l.drop i) = F ∧ Below w1.heap.size w1 w2) (fun _ j _ => 6 - (intOf j).toNat)
        case atStart => exact ⟨0, 0, by omega, rfl, rfl, by omega, by simpa using HF.out, Below.refl _ _⟩
        case round =>
          obtain ⟨i, t, hi, rfl, rfl, hti, heq, hb⟩ := hrel
          have Heq := Lib.hid heq
          clear heq
          by_cases hlt2 : i < 6
          · have x1 := (hb.cell (p := ⟨g, i, none⟩) hgl).trans (Hcr.out i hlt2)
            have x2 := ((Hb0.out.trans (hb.mono Hb0.out.size)).cell (p := ⟨b1, f1 + i, none⟩) hlt1).trans (Hc1.out i hlt2)
            have hd := far_drop (rowK k) l i (by rw [Hrow.out.1]; exact hlt2) (by rw [H6.out.1]; exact hlt2)
            generalize (rowK k).getD i 0 = p at x1 hd
            generalize l.getD i 0 = q at x2 hd
            have HD := Lib.hid hd
            clear hd
            by_cases hpq : p = q
            · have hne : ((p : Int) != (q : Int)) = false := by simp [hpq]
              have Hst : Hid (t + farL ((rowK k).drop (i + 1)) (l.drop (i + 1)) = F) := by
                have : t + farL ((rowK k).drop (i + 1)) (l.drop (i + 1)) = F := by rw [← Heq.out, HD.out, if_neg (by simp [hpq])]; omega
                exact this
              clear hpq HD Heq
              go_wp2
              go_quiet (fail)
              go_wp2
              go_roundw
              case rel => exact ⟨i + 1, t, by omega, by go_num, rfl, by omega, Hst.out, below_drewN hb _⟩
              case measure => simp [intOf]; omega
            · have hne : ((p : Int) != (q : Int)) = true := by simp; omega
              have Hst : Hid (t + 1 + farL ((rowK k).drop (i + 1)) (l.drop (i + 1)) = F) := by
                have : t + 1 + farL ((rowK k).drop (i + 1)) (l.drop (i + 1)) = F := by rw [← Heq.out, HD.out, if_pos hpq]; omega
                exact this
              clear hpq HD Heq
              go_wp2
              go_quiet (fail)
              go_wp2
              go_roundw
              case rel => exact ⟨i + 1, t + 1, by omega, by go_num, by go_num, by omega, Hst.out, below_drewN hb _⟩
              case measure => simp [intOf]; omega
          · have e : i = 6 := by omega
            subst e
            have e2 : t = F := by
              rw [← Heq.out, List.drop_of_length_le (by rw [Hrow.out.1]; exact Nat.le_refl _)]
              simp [farL]
            subst e2
            have hbel := Hb0.out.trans (hb.mono Hb0.out.size)
            by_cases htd : t < d
            · have Hst : Hid (nearK l (k + 1) = (rowK k, t)) := Lib.hid (by rw [Hs.out, if_pos htd])
              have htd2 : decide ((t : Int) < (d : Int)) = true := by simp; omega
              go_wp2
              go_roundw
              case rel => exact ⟨k + 1, by omega, by go_num, by rw [Hst.out], by rw [Hst.out]; exact Ho1.out.kept hb, hbel⟩
              case measure => simp [intOf]; omega
            · have Hst : Hid (nearK l (k + 1) = nearK l k) := Lib.hid (by rw [Hs.out, if_neg htd])
              have htd2 : decide ((t : Int) < (d : Int)) = false := by simp; omega
              go_wp2
              go_roundw
              case rel => exact ⟨k + 1, by omega, by go_num, by rw [Hst.out, Hd.out], by rw [Hst.out]; exact Hown1.out.kept hb, hbel⟩
              case measure => simp [intOf]; omega
      · have e : k = 64 := by omega
        subst e
        go_wp2
        go_ret3
        exact RetOwns3.mk Hown.out Hbel.out
  · have hA : rowB zs = false := by simpa using hA
    have hv : nearZ zs = [] := by simp [nearZ, hA]
    have ht : nearT zs = 0 := by simp [nearT, hA]
    obtain ⟨a1, c1, rfl⟩ := rd_form hr
    rw [hv, ht, hA]
    clear hv ht hr
    go_enter Try.func48, Try.ntmps48
    go_wp2_with fail
    refine (rowOk_any _ _ _ Hr.out Hl.out).mono ?_
    rintro e w1 ⟨rfl, rfl⟩
    rw [hA]
    go_wp2
    go_ret3
    exact RetOwns3.mk (Owns.made _ _ (Nat.le_refl _)) ((Below.refl _ _).alloc (Nat.le_refl _) _)
set_option maxHeartbeats 2000000 in
theorem specHexNear_any (v : Value) (zs : List Int) (W : World) (hr : Rd W v zs) (hl : zs.length ≤ 1048576) :
    Calls Try.prog 47 #[v] W (RetOwns3 W.heap.size (nearZ zs) (nearT zs) (rowB zs) W) := by
  have Hr := Lib.hid hr
  have Hl := Lib.hid hl
  clear hl
  by_cases hA : rowB zs = true
  · have HA := Lib.hid hA
    obtain ⟨l, b1, f1, c1, hl6, rfl, rfl, hlt1, hc1⟩ := rd_row hr hA
    rw [nearZ_row hl6, nearT_row hl6, hA]
    have H6 := Lib.hid hl6
    have Hc1 := Lib.hid hc1
    clear hr hA hl6 hc1
    go_enter Try.func47, Try.ntmps47
    go_wp2_with fail
    refine (l2Row_any _ _ _ Hr.out Hl.out).mono ?_
    rintro e w1 ⟨rfl, rfl⟩
    rw [HA.out]
    go_wp2
    go_loopw [5, 6, 7] (fun best least i wr => ∃ k : Nat, k ≤ 64 ∧ i = .int .i64 k ∧ least = .int .i64 ((nearK l k).2 : Nat) ∧ Owns wr W.heap.size best (ints (nearK l k).1) ∧ Below W.heap.size W wr) (fun _ _ i _ => 64 - (intOf i).toNat)
    case atStart => exact ⟨0, by omega, rfl, rfl, Owns.made _ _ (Nat.le_refl _), (Below.refl _ _).alloc (Nat.le_refl _) _⟩
    case round =>
      obtain ⟨k, hk, rfl, rfl, hown, hbel⟩ := hrel
      have Hown := Lib.hid hown
      have Hbel := Lib.hid hbel
      have Htwo := Lib.hid (nearK_two l k)
      clear hown
      by_cases hlt : k < 64
      · have e1 : Hid (hexRow ((k : Int) / 16).toNat ((k : Int) / 4 % 4).toNat ((k : Int) % 4).toNat = rowK k) := Lib.hid (rowK_int k)
        have Hs : Hid (nearK l (k + 1) = if farL (rowK k) l < (nearK l k).2 then (rowK k, farL (rowK k) l) else nearK l k) := Lib.hid rfl
        have H6' : Hid (farL (rowK k) l ≤ 6) := Lib.hid (farL_le (rowK k) l)
        go_wp2_with (first | (go_at_call 61; refine (l2Of_any _ _ _ (by omega) (by omega) (by omega) (by omega) (by omega) (by omega) _).mono ?_; rintro e w1 ⟨ar, cr, rfl, ho1, hb1⟩; rw [e1.out] at ho1 ⊢) | go_in)
        have h6 : (ints (rowK k)).length = 6 := rfl
        rw [h6] at ho1 ⊢
        obtain ⟨g, rfl, hgB, hgl, hcr⟩ := ho1.head (by rw [h6]; decide)
        have Hcr : Hid (∀ j, j < 6 → w1.cell? ⟨g, j, none⟩ = some (.int .i64 ((rowK k).getD j 0 : Nat))) := Lib.hid (fun j hj => by rw [hcr j (by rw [h6]; exact hj), ints_getD])
        have Hb0 : Hid (Below W.heap.size W w1) := Lib.hid (Hbel.out.trans (hb1.mono Hbel.out.size))
        have Hrow : Hid (Row (rowK k)) := Lib.hid (rowK_row hlt)
        have Ho1 := Lib.hid (ho1.base Hbel.out.size)
        have Hown1 := Lib.hid (Hown.out.kept hb1)
        clear hcr ho1 hb1 hbel Hown Hbel h6
        generalize hF : farL (rowK k) l = F at Hs H6'
        generalize hd : (nearK l k).2 = d at Hs Htwo
        have HF := Lib.hid hF
        have Hd := Lib.hid hd
        clear hF hd
        go_loopw [9, 10] (fun far j w2 => ∃ i t : Nat, i ≤ 6 ∧ j = .int .i64 i ∧ far = .int .i64 t ∧ t ≤ i ∧ t + farL ((rowK k).drop i) (l.drop i) = F ∧ Below w1.heap.size w1 w2) (fun _ j _ => 6 - (intOf j).toNat)
        case atStart => exact ⟨0, 0, by omega, rfl, rfl, by omega, by simpa using HF.out, Below.refl _ _⟩
        case round =>
          obtain ⟨i, t, hi, rfl, rfl, hti, heq, hb⟩ := hrel
          have Heq := Lib.hid heq
          clear heq
          by_cases hlt2 : i < 6
          · have x1 := (hb.cell (p := ⟨g, i, none⟩) hgl).trans (Hcr.out i hlt2)
            have x2 := ((Hb0.out.trans (hb.mono Hb0.out.size)).cell (p := ⟨b1, f1 + i, none⟩) hlt1).trans (Hc1.out i hlt2)
            have hd := far_drop (rowK k) l i (by rw [Hrow.out.1]; exact hlt2) (by rw [H6.out.1]; exact hlt2)
            generalize (rowK k).getD i 0 = p at x1 hd
            generalize l.getD i 0 = q at x2 hd
            have HD := Lib.hid hd
            clear hd
            by_cases hpq : p = q
            · have hne : ((p : Int) != (q : Int)) = false := by simp [hpq]
              have Hst : Hid (t + farL ((rowK k).drop (i + 1)) (l.drop (i + 1)) = F) := by
                have : t + farL ((rowK k).drop (i + 1)) (l.drop (i + 1)) = F := by rw [← Heq.out, HD.out, if_neg (by simp [hpq])]; omega
                exact this
              clear hpq HD Heq
              go_wp2
              go_quiet (fail)
              go_wp2
              go_roundw
              case rel => exact ⟨i + 1, t, by omega, by go_num, rfl, by omega, Hst.out, below_drewN hb _⟩
              case measure => simp [intOf]; omega
            · have hne : ((p : Int) != (q : Int)) = true := by simp; omega
              have Hst : Hid (t + 1 + farL ((rowK k).drop (i + 1)) (l.drop (i + 1)) = F) := by
                have : t + 1 + farL ((rowK k).drop (i + 1)) (l.drop (i + 1)) = F := by rw [← Heq.out, HD.out, if_pos hpq]; omega
                exact this
              clear hpq HD Heq
              go_wp2
              go_quiet (fail)
              go_wp2
              go_roundw
              case rel => exact ⟨i + 1, t + 1, by omega, by go_num, by go_num, by omega, Hst.out, below_drewN hb _⟩
              case measure => simp [intOf]; omega
          · have e : i = 6 := by omega
            subst e
            have e2 : t = F := by
              rw [← Heq.out, List.drop_of_length_le (by rw [Hrow.out.1]; exact Nat.le_refl _)]
              simp [farL]
            subst e2
            have hbel := Hb0.out.trans (hb.mono Hb0.out.size)
            by_cases htd : t < d
            · have Hst : Hid (nearK l (k + 1) = (rowK k, t)) := Lib.hid (by rw [Hs.out, if_pos htd])
              have htd2 : decide ((t : Int) < (d : Int)) = true := by simp; omega
              go_wp2
              go_roundw
              case rel => exact ⟨k + 1, by omega, by go_num, by rw [Hst.out], by rw [Hst.out]; exact Ho1.out.kept hb, hbel⟩
              case measure => simp [intOf]; omega
            · have Hst : Hid (nearK l (k + 1) = nearK l k) := Lib.hid (by rw [Hs.out, if_neg htd])
              have htd2 : decide ((t : Int) < (d : Int)) = false := by simp; omega
              go_wp2
              go_roundw
              case rel => exact ⟨k + 1, by omega, by go_num, by rw [Hst.out, Hd.out], by rw [Hst.out]; exact Hown1.out.kept hb, hbel⟩
              case measure => simp [intOf]; omega
      · have e : k = 64 := by omega
        subst e
        go_wp2
        go_ret3
        exact RetOwns3.mk Hown.out Hbel.out
  · have hA : rowB zs = false := by simpa using hA
    have hv : nearZ zs = [] := by simp [nearZ, hA]
    have ht : nearT zs = 0 := by simp [nearT, hA]
    obtain ⟨a1, c1, rfl⟩ := rd_form hr
    rw [hv, ht, hA]
    clear hv ht hr
    go_enter Try.func47, Try.ntmps47
    go_wp2_with fail
    refine (l2Row_any _ _ _ Hr.out Hl.out).mono ?_
    rintro e w1 ⟨rfl, rfl⟩
    rw [hA]
    go_wp2
    go_ret3
    exact RetOwns3.mk (Owns.made _ _ (Nat.le_refl _)) ((Below.refl _ _).alloc (Nat.le_refl _) _)
end Go.Proofs.Ytahmophmdchiaaa
