/- Contracts of the weight of a row, of both. No condition beyond those stated. -/
import Derived.Test.YtahmophmdchiaaaRows6
namespace Go.Proofs.Ytahmophmdchiaaa
open Go.RowKit Gol
theorem rowB_row {zs : List Int} (h : rowB zs = true) : ∃ l : List Nat, Row l ∧ zs = ints l := by
  unfold rowB at h
  simp only [Bool.and_eq_true, List.all_eq_true, decide_eq_true_eq] at h
  refine ⟨zs.map Int.toNat, ⟨by rw [List.length_map]; exact h.2, ?_⟩, ?_⟩
  · intro x hx
    obtain ⟨z, hz, rfl⟩ := List.mem_map.1 hx
    have := dig_iff.1 (h.1 z hz)
    omega
  · unfold ints
    rw [List.map_map]
    conv => lhs; rw [← List.map_id zs]
    refine List.map_congr_left fun z hz => ?_
    have := dig_iff.1 (h.1 z hz)
    simp only [id, Function.comp, Int.ofNat_eq_natCast]
    omega
theorem row_rowB {l : List Nat} (h : Row l) : rowB (ints l) = true := by
  unfold rowB
  simp only [Bool.and_eq_true, List.all_eq_true, decide_eq_true_eq]
  refine ⟨?_, by rw [ints_length]; exact h.1⟩
  intro z hz
  obtain ⟨x, hx, rfl⟩ := List.mem_map.1 hz
  have := h.2 x hx
  exact dig_iff.2 ⟨Int.natCast_nonneg _, by simp only [Int.ofNat_eq_natCast]; omega⟩
/-- the weight of a row, or -1 -/
def weightV (zs : List Int) : Int := if rowB zs then ((wt (zs.map Int.toNat) : Nat) : Int) else -1
theorem ints_toNat (l : List Nat) : (ints l).map Int.toNat = l := by
  unfold ints
  rw [List.map_map]
  conv => rhs; rw [← List.map_id l]
  exact List.map_congr_left fun z _ => by simp
theorem ints_getD (l : List Nat) (k : Nat) : (ints l).getD k 0 = ((l.getD k 0 : Nat) : Int) := by
  simp only [ints, List.getD, List.getElem?_map]
  cases l[k]? <;> rfl
theorem weightV_row {l : List Nat} (h : Row l) : weightV (ints l) = (wt l : Nat) := by simp [weightV, row_rowB h, ints_toNat]
theorem wt_drop (l : List Nat) (k : Nat) (h : k < l.length) : wt (l.drop k) = (if l.getD k 0 ≠ 0 then 1 else 0) + wt (l.drop (k + 1)) := by
  rw [List.drop_eq_getElem_cons h]
  simp [wt, List.getD, h]
set_option maxHeartbeats 1000000 in
theorem implHexWeight_any (v : Value) (zs : List Int) (W : World) (hr : Rd W v zs) (hl : zs.length ≤ 1048576) :
    Calls Try.prog 28 #[v] W fun e W' => e = .returned (.int .i64 (weightV zs)) ∧ W = W' := by
  by_cases hB : rowB zs = true
  · obtain ⟨l, hl6, rfl⟩ := rowB_row hB
    rw [weightV_row hl6]
    have hlen : (ints l).length = 6 := by rw [ints_length]; exact hl6.1
    have hr0 := hr
    rcases hr with ⟨e, _⟩ | ⟨b, off, cap, rfl, hb, hc⟩
    · rw [e] at hlen; exact absurd hlen (by decide)
    have Hc : Hid (∀ k, k < 6 → W.cell? ⟨b, off + k, none⟩ = some (.int .i64 (l.getD k 0 : Nat))) := by
      have : ∀ k, k < 6 → W.cell? ⟨b, off + k, none⟩ = some (.int .i64 (l.getD k 0 : Nat)) := fun k hk => by rw [hc k (by omega), ints_getD]
      exact this
    have Hr := Lib.hid hr0
    have Hl := Lib.hid hl
    have H6 := Lib.hid hl6
    have HB := Lib.hid hB
    clear hc hr0 hl hl6 hB
    rw [hlen] at Hr ⊢
    obtain ⟨r, Hwt⟩ : ∃ r, Hid (wt l = r) := ⟨_, Lib.hid rfl⟩
    rw [Hwt.out]
    go_enter Try.func28, Try.ntmps28
    go_wp2_with fail
    refine (rowOk_any _ _ _ Hr.out Hl.out).mono ?_
    rintro e w1 ⟨rfl, rfl⟩
    rw [HB.out]
    go_wp2
    go_loop [3, 5, 11] (fun s u5 i => ∃ k t : Nat, k ≤ 6 ∧ i = .int .i64 k ∧ s = .int .i64 t ∧ r = t + wt (l.drop k) ∧ t ≤ k) (fun _ _ i => 6 - (intOf i).toNat)
    case atStart => exact ⟨0, 0, by omega, rfl, rfl, by rw [← Hwt.out]; simp, by omega⟩
    case round =>
      obtain ⟨k, t, hk, rfl, rfl, heq, ht⟩ := hrel
      have Heq := Lib.hid heq; clear heq
      by_cases hlt : k < 6
      · have hcx := Hc.out k hlt
        have hd := wt_drop l k (by rw [H6.out.1]; exact hlt)
        generalize l.getD k 0 = p at hcx hd
        have Hd := Lib.hid hd
        clear hd
        by_cases hp : p = 0
        · subst hp
          have Hstep : Hid (r = t + wt (l.drop (k + 1))) := by
            have : r = t + wt (l.drop (k + 1)) := by rw [Heq.out, Hd.out]; simp
            exact this
          go_wp2
          go_round
          case rel => exact ⟨k + 1, t, by omega, by go_num, rfl, Hstep.out, by omega⟩
          case measure => simp [intOf]; omega
        · have e0 : ((p : Int) == 0) = false := by rw [beq_eq_false_iff_ne]; omega
          have Hstep : Hid (r = t + 1 + wt (l.drop (k + 1))) := by
            have : r = t + 1 + wt (l.drop (k + 1)) := by rw [Heq.out, Hd.out, if_pos hp]; omega
            exact this
          clear hp
          go_wp2
          go_round
          case rel => exact ⟨k + 1, t + 1, by omega, by go_num, by go_num, Hstep.out, by omega⟩
          case measure => simp [intOf]; omega
      · have e : k = 6 := by omega
        subst e
        have Hend : Hid (r = t) := by
          have : r = t := by rw [Heq.out, List.drop_of_length_le (by rw [H6.out.1]; exact Nat.le_refl _)]; rfl
          exact this
        go_wp2
        go_ret
        exact ⟨ret_int (by rw [Hend.out]), rfl⟩
  · have hB : rowB zs = false := by simpa using hB
    have hv : weightV zs = -1 := by simp [weightV, hB]
    rw [hv]
    obtain ⟨a, cap, rfl⟩ : ∃ a cap, v = .slice a zs.length cap := by
      rcases hr with ⟨e, a, cap, rfl⟩ | ⟨b, off, cap, rfl, _⟩
      · exact ⟨a, cap, by rw [e]; rfl⟩
      · exact ⟨_, cap, rfl⟩
    have Hr := Lib.hid hr
    have Hl := Lib.hid hl
    clear hr hl hv
    go_enter Try.func28, Try.ntmps28
    go_wp2_with fail
    refine (rowOk_any _ _ _ Hr.out Hl.out).mono ?_
    rintro e w1 ⟨rfl, rfl⟩
    rw [hB]
    go_wp2
    go_ret
    exact ⟨rfl, rfl⟩
set_option maxHeartbeats 1000000 in
theorem specHexWeight_any (v : Value) (zs : List Int) (W : World) (hr : Rd W v zs) (hl : zs.length ≤ 1048576) :
    Calls Try.prog 26 #[v] W fun e W' => e = .returned (.int .i64 (weightV zs)) ∧ W = W' := by
  by_cases hB : rowB zs = true
  · obtain ⟨l, hl6, rfl⟩ := rowB_row hB
    rw [weightV_row hl6]
    have hlen : (ints l).length = 6 := by rw [ints_length]; exact hl6.1
    have hr0 := hr
    rcases hr with ⟨e, _⟩ | ⟨b, off, cap, rfl, hb, hc⟩
    · rw [e] at hlen; exact absurd hlen (by decide)
    have Hc : Hid (∀ k, k < 6 → W.cell? ⟨b, off + k, none⟩ = some (.int .i64 (l.getD k 0 : Nat))) := by
      have : ∀ k, k < 6 → W.cell? ⟨b, off + k, none⟩ = some (.int .i64 (l.getD k 0 : Nat)) := fun k hk => by rw [hc k (by omega), ints_getD]
      exact this
    have Hr := Lib.hid hr0
    have Hl := Lib.hid hl
    have H6 := Lib.hid hl6
    have HB := Lib.hid hB
    clear hc hr0 hl hl6 hB
    rw [hlen] at Hr ⊢
    obtain ⟨r, Hwt⟩ : ∃ r, Hid (wt l = r) := ⟨_, Lib.hid rfl⟩
    rw [Hwt.out]
    go_enter Try.func26, Try.ntmps26
    go_wp2_with fail
    refine (l2Row_any _ _ _ Hr.out Hl.out).mono ?_
    rintro e w1 ⟨rfl, rfl⟩
    rw [HB.out]
    go_wp2
    go_loop [3, 4] (fun s i => ∃ k t : Nat, k ≤ 6 ∧ i = .int .i64 k ∧ s = .int .i64 t ∧ r = t + wt (l.drop k) ∧ t ≤ k) (fun _ i => 6 - (intOf i).toNat)
    case atStart => exact ⟨0, 0, by omega, rfl, rfl, by rw [← Hwt.out]; simp, by omega⟩
    case round =>
      obtain ⟨k, t, hk, rfl, rfl, heq, ht⟩ := hrel
      have Heq := Lib.hid heq; clear heq
      by_cases hlt : k < 6
      · have hcx := Hc.out k hlt
        have hd := wt_drop l k (by rw [H6.out.1]; exact hlt)
        generalize l.getD k 0 = p at hcx hd
        have Hd := Lib.hid hd
        clear hd
        by_cases hp : p = 0
        · subst hp
          have Hstep : Hid (r = t + wt (l.drop (k + 1))) := by
            have : r = t + wt (l.drop (k + 1)) := by rw [Heq.out, Hd.out]; simp
            exact this
          go_wp2
          go_round
          case rel => exact ⟨k + 1, t, by omega, by go_num, rfl, Hstep.out, by omega⟩
          case measure => simp [intOf]; omega
        · have e0 : ((p : Int) == 0) = false := by rw [beq_eq_false_iff_ne]; omega
          have Hstep : Hid (r = t + 1 + wt (l.drop (k + 1))) := by
            have : r = t + 1 + wt (l.drop (k + 1)) := by rw [Heq.out, Hd.out, if_pos hp]; omega
            exact this
          clear hp
          go_wp2
          go_round
          case rel => exact ⟨k + 1, t + 1, by omega, by go_num, by go_num, Hstep.out, by omega⟩
          case measure => simp [intOf]; omega
      · have e : k = 6 := by omega
        subst e
        have Hend : Hid (r = t) := by
          have : r = t := by rw [Heq.out, List.drop_of_length_le (by rw [H6.out.1]; exact Nat.le_refl _)]; rfl
          exact this
        go_wp2
        go_ret
        exact ⟨ret_int (by rw [Hend.out]), rfl⟩
  · have hB : rowB zs = false := by simpa using hB
    have hv : weightV zs = -1 := by simp [weightV, hB]
    rw [hv]
    obtain ⟨a, cap, rfl⟩ : ∃ a cap, v = .slice a zs.length cap := by
      rcases hr with ⟨e, a, cap, rfl⟩ | ⟨b, off, cap, rfl, _⟩
      · exact ⟨a, cap, by rw [e]; rfl⟩
      · exact ⟨_, cap, rfl⟩
    have Hr := Lib.hid hr
    have Hl := Lib.hid hl
    clear hr hl hv
    go_enter Try.func26, Try.ntmps26
    go_wp2_with fail
    refine (l2Row_any _ _ _ Hr.out Hl.out).mono ?_
    rintro e w1 ⟨rfl, rfl⟩
    rw [hB]
    go_wp2
    go_ret
    exact ⟨rfl, rfl⟩
end Go.Proofs.Ytahmophmdchiaaa
