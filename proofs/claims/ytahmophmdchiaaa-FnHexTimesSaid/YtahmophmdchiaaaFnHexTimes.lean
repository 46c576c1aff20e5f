/- The law FnHexTimes returns true at every input and leaves all that was there as it was. No condition. -/
import Derived.Test.YtahmophmdchiaaaBase
import Derived.Test.YtahmophmdchiaaaHexTimes
import Derived.Test.YtahmophmdchiaaaHexW
import Derived.Test.YtahmophmdchiaaaDrawH
import Derived.Test.YtahmophmdchiaaaSame
import Derived.Test.YtahmophmdchiaaaHexLaws
namespace Go.Proofs.Ytahmophmdchiaaa.fnHexTimes
open Go.ChangeShapes Go.WideShapes Go.ChangeAt Go.RowKit
open Go.ChangeMaps (open_string shut_string)
set_option linter.unusedVariables false

open Gol in
set_option maxHeartbeats 2000000 in
theorem walk (a0 : Option Addr) (len0 cap0 : Nat) (z0 : List Int) (w : World) (w0 : IsRow .u8 w a0 len0 cap0 z0) :
    Calls Try.prog 15 #[.slice a0 len0 cap0] w fun e w' => e = .returned (.bool true) ∧ Below w.heap.size w w' := by
  by_cases hbig : len0 ≤ 1048576
  · have hnot : ¬ (1048576 : Int) < (len0 : Int) := by omega
    have W0 := Lib.hid w0
    clear w0 hbig
    go_enter Try.func15, Try.ntmps15
    go_wp2_with fail
    refine (DrawHexTimes_any _ _ _ _ _ W0.out).mono ?_
    rintro e w1 ⟨v, zs, x, x0, x1, rfl, hr, h6, hb⟩
    have H6 : Hid (zs.length ≤ 1048576) := Lib.hid (Nat.le_trans h6 (by decide))
    clear h6 hnot
    have HI := Lib.hid (fun W => implHexTimes_any v zs x W)
    have HS := Lib.hid (fun W => specHexTimes_any v zs x W)
    by_cases hA : (rowB zs && dig x) = true
    · obtain ⟨hA1, hA2⟩ := Bool.and_eq_true_iff.1 hA
      obtain ⟨l, hl, rfl⟩ := rowB_row hA1
      obtain ⟨_, x3⟩ := dig_iff.1 hA2
      obtain ⟨n, rfl⟩ := Int.eq_ofNat_of_zero_le x0
      have n4 : n < 4 := by omega
      have hR := timesL_row hl n4
      have hR2 := timesL_row hR n4
      have hx := fun t => implHexTimes_any t (ints (timesL n l)) n
      have hy := fun t => implHexTimes_any t (ints (timesL n (timesL n l))) n
      rw [hA, timesZ_row hl n n4] at HI HS
      rw [timesZ_row hR n n4, row_rowB hR, hA2, Bool.and_self] at hx
      rw [timesZ_row hR2 n n4, row_rowB hR2, hA2, Bool.and_self] at hy
      have HX := Lib.hid hx
      have HY := Lib.hid hy
      have HL3 : Hid ((ints (timesL n l)).length ≤ 1048576) := Lib.hid (by rw [row_len hR]; decide)
      have HL4 : Hid ((ints (timesL n (timesL n l))).length ≤ 1048576) := Lib.hid (by rw [row_len hR2]; decide)
      have V1 := Lib.hid (weightV_row hl)
      have V2 := Lib.hid (weightV_row hR)
      have HW : Hid (n ≠ 0 → wt (timesL n l) = wt l) := Lib.hid (fun h => timesL_wt hl.2 n4 h)
      have H3 : Hid (n ≠ 0 → timesL n (timesL n (timesL n l)) = l) := Lib.hid (fun h => timesL_three hl n4 h)
      have HL5 : Hid ((ints (timesL n (timesL n (timesL n l)))).length ≤ 1048576) := Lib.hid (by rw [row_len (timesL_row hR2 n4)]; decide)
      clear hA hA1 hA2 hR hR2 hx hy hl
      by_cases hn : n = 0
      · subst hn
        go_wp2_with fail
        refine (HI.out _ hr H6.out).mono ?_
        rintro e w2 ⟨ao1, co1, rfl, o1, b2⟩
        have k3 := hr.kept b2
        have q4 := hb.trans (b2.mono hb.size)
        go_wp2_with fail
        refine (HS.out _ k3 H6.out).mono ?_
        rintro e w3 ⟨ao5, co5, rfl, o5, b6⟩
        have k7 := k3.kept b6
        have k8 := o1.kept b6
        have q9 := q4.trans (b6.mono q4.size)
        go_wp2_with fail
        refine (sameInts_any _ _ _ _ _ k8.rd o5.rd (Nat.le_trans HL3.out (by decide)) (Nat.le_trans HL3.out (by decide))).mono ?_
        rintro e w4 ⟨rfl, b10⟩
        have k11 := k7.kept b10
        have k12 := k8.kept b10
        have k13 := o5.kept b10
        have q14 := q9.trans (b10.mono q9.size)
        rw [eqL_self]
        go_wp2_with fail
        refine (HX.out _ _ k12.rd HL3.out).mono ?_
        rintro e w5 ⟨ao15, co15, rfl, o15, b16⟩
        have k17 := k11.kept b16
        have k18 := k12.kept b16
        have k19 := k13.kept b16
        have q20 := q14.trans (b16.mono q14.size)
        go_wp2_with fail
        refine (HY.out _ _ o15.rd HL4.out).mono ?_
        rintro e w6 ⟨ao21, co21, rfl, o21, b22⟩
        have k23 := k17.kept b22
        have k24 := k18.kept b22
        have k25 := k19.kept b22
        have k26 := o15.kept b22
        have q27 := q20.trans (b22.mono q20.size)
        go_wp2
        go_ret
        exact ⟨rfl, q27⟩
      · have hn0 : ((n : Int) == 0) = false := by simp; omega
        have e3 := H3.out hn
        have ew := HW.out hn
        rw [e3] at HY
        rw [ew] at V2
        clear hn H3 HW e3 ew
        generalize ints (timesL n (timesL n l)) = us at *
        generalize ints (timesL n l) = xs at *
        generalize wt l = k at *
        generalize ints l = zs at *
        go_wp2_with fail
        refine (HI.out _ hr H6.out).mono ?_
        rintro e w2 ⟨ao1, co1, rfl, o1, b2⟩
        have k3 := hr.kept b2
        have q4 := hb.trans (b2.mono hb.size)
        go_wp2_with fail
        refine (HS.out _ k3 H6.out).mono ?_
        rintro e w3 ⟨ao5, co5, rfl, o5, b6⟩
        have k7 := k3.kept b6
        have k8 := o1.kept b6
        have q9 := q4.trans (b6.mono q4.size)
        go_wp2_with fail
        refine (sameInts_any _ _ _ _ _ k8.rd o5.rd (Nat.le_trans HL3.out (by decide)) (Nat.le_trans HL3.out (by decide))).mono ?_
        rintro e w4 ⟨rfl, b10⟩
        have k11 := k7.kept b10
        have k12 := k8.kept b10
        have k13 := o5.kept b10
        have q14 := q9.trans (b10.mono q9.size)
        rw [eqL_self]
        go_wp2_with fail
        refine (HX.out _ _ k12.rd HL3.out).mono ?_
        rintro e w5 ⟨ao15, co15, rfl, o15, b16⟩
        have k17 := k11.kept b16
        have k18 := k12.kept b16
        have k19 := k13.kept b16
        have q20 := q14.trans (b16.mono q14.size)
        go_wp2_with fail
        refine (HY.out _ _ o15.rd HL4.out).mono ?_
        rintro e w6 ⟨ao21, co21, rfl, o21, b22⟩
        have k23 := k17.kept b22
        have k24 := k18.kept b22
        have k25 := k19.kept b22
        have k26 := o15.kept b22
        have q27 := q20.trans (b22.mono q20.size)
        go_wp2_with fail
        refine (sameInts_any _ _ _ _ _ o21.rd k23 (Nat.le_trans H6.out (by decide)) (Nat.le_trans H6.out (by decide))).mono ?_
        rintro e w7 ⟨rfl, b28⟩
        have k29 := k23.kept b28
        have k30 := k24.kept b28
        have k31 := k25.kept b28
        have k32 := k26.kept b28
        have k33 := o21.kept b28
        have q34 := q27.trans (b28.mono q27.size)
        rw [eqL_self]
        go_wp2_with fail
        refine (implHexWeight_any _ _ _ k30.rd HL3.out).mono ?_
        rintro e w8 ⟨rfl, rfl⟩
        rw [V2.out]
        go_wp2_with fail
        refine (implHexWeight_any _ _ _ k29 H6.out).mono ?_
        rintro e w9 ⟨rfl, rfl⟩
        rw [V1.out]
        go_wp2
        go_ret
        exact ⟨rfl, q34⟩
    · have hA : (rowB zs && dig x) = false := by simpa using hA
      have hv : timesZ zs x = [] := by rw [timesZ, hA]; rfl
      rw [hA, hv] at HI HS
      clear hA hv
      go_wp2_with fail
      refine (HI.out _ hr H6.out).mono ?_
      rintro e w2 ⟨ao1, co1, rfl, o1, b2⟩
      have k3 := hr.kept b2
      have q4 := hb.trans (b2.mono hb.size)
      go_wp2_with fail
      refine (HS.out _ k3 H6.out).mono ?_
      rintro e w3 ⟨ao5, co5, rfl, o5, b6⟩
      have k8 := o1.kept b6
      have q9 := q4.trans (b6.mono q4.size)
      go_wp2_with fail
      refine (sameInts_any _ _ _ _ _ k8.rd o5.rd (by simp) (by simp)).mono ?_
      rintro e w4 ⟨rfl, b10⟩
      have k12 := k8.kept b10
      have k13 := o5.kept b10
      have q14 := q9.trans (b10.mono q9.size)
      rw [eqL_self]
      go_wp2_with fail
      refine (sameInts_any _ _ _ _ _ k12.rd k13.rd (by simp) (by simp)).mono ?_
      rintro e w5 ⟨rfl, b15⟩
      have q19 := q14.trans (b15.mono q14.size)
      rw [eqL_self]
      go_wp2
      go_ret
      exact ⟨rfl, q19⟩
  · have hnot : (1048576 : Int) < (len0 : Int) := by omega
    go_enter Try.func15, Try.ntmps15
    go_wp2
    go_ret
    exact ⟨rfl, Below.refl _ _⟩

set_option maxRecDepth 100000 in
theorem lifted (os : Os) (started : os.Started) (H : Type) (enc : TypeId × Value → H) :
    ReturnsInHanded {} Try.checked os 15 .any (Rows.fnHexTimesSpec.pre6 enc Try.prog Try.f15 Rows.fnHexTimesRow.domain false) (Rows.fnHexTimesSpec.post enc Try.prog Try.f15 false true false false) := by
  refine returnsInHanded_of_change (C := Try.checked) own started (by kernel_rfl) Try.func15
    (ChangeSpec.witness6 (enc := enc) (C := Try.checked) false ⟨#[], #[.slice none 0 0], []⟩ 8 (by kernel_rfl) (by kernel_rfl) (by kernel_rfl) (by kernel_rfl)) ?_
  intro W base args ds gs before hval0 hW hcnd _
  have hval : ∀ (j : Nat) t v, Try.f15.params[j]? = some t → args[j]? = some v → Value.okWide Try.prog W .any base t v := hval0
  have hW' := hW
  obtain ⟨p, q, hA0, hV, rfl, hfz, hnd⟩ := hW
  have hA : DataW.TrodAll enc Try.prog W 0 (fun _ => true) true Try.f15.params.toList args.toList ds p := hA0
  rw [Try.params15] at hA hval
  obtain ⟨v0, vs0, d0, ds0, p0, q0, hargs, rfl, rfl, h0, r0⟩ := trodAll_cons hA
  obtain ⟨rfl, rfl, rfl⟩ := trodAll_nil r0
  obtain rfl : args = #[v0] := by cases args; simp_all
  obtain ⟨rfl, rfl⟩ := trodVars_none hV
  obtain ⟨a0, len0, cap0, rfl⟩ := okWide_slice Try.underlying24 (hval 0 24 v0 rfl rfl)
  have k0 := h0
  have lt0 : ∀ x ∈ p0, x.block < W.heap.size := by obtain ⟨m, hm⟩ := k0; exact DataW.trod_lt m _ _ _ hm
  obtain ⟨z0, w0⟩ : ∃ zs, IsRow .u8 W a0 len0 cap0 zs := by
    obtain ⟨fuel, hf⟩ := h0
    rcases open_ints Try.underlying24 Try.underlying5 (by kernel_rfl) hf with ⟨hcs, _⟩ | ⟨x, l, c, zs, hcs, _, hl, hm, hz, _, hcell, hwz⟩
    · simp [Value.cells] at hcs
      obtain ⟨rfl, rfl, rfl⟩ := hcs
      exact ⟨[], .inl ⟨rfl, rfl, rfl, rfl⟩⟩
    · simp [Value.cells] at hcs
      obtain ⟨rfl, rfl, rfl⟩ := hcs
      exact ⟨zs, .inr ⟨_, rfl, hl, hm, by simpa using hz, hcell, hwz⟩⟩
  clear hA0 hval0
  refine (walk a0 len0 cap0 z0 W w0).mono fun e W' ⟨he, bel⟩ => ?_
  subst he
  exact ⟨_, rfl, _, _, _, [], _, [], hW', trodAll_mk1 (shut_bool Try.underlying4 _), (trodAll_cons_mk (Below.trod laidOut (by kernel_rfl) (of_decide_eq_true (by kernel_rfl)) k0 bel lt0) trodAll_mk0), rfl, bel.frame _, fun h => by cases h⟩

theorem closed : joinedFacts Try.prog 15 Try.f15 Rows.fnHexTimesSpec Rows.fnHexTimesRow = true := by
  delta joinedFacts
  repeat' (first | (with_reducible exact mayEnter) | (with_reducible refine liftedF _ ?_) | (with_reducible refine madeC _ ?_) | (with_reducible refine Bool.and_eq_true_iff.2 ⟨?_, ?_⟩))
  all_goals kernel_rfl

theorem over : Rows.fnHexTimesRow.holds Try.pinned (OpenSpec.ofChange Rows.fnHexTimesSpec) :=
  OpenClaim.holds_of_wide 15 Try.f15 rfl rfl rfl rfl rfl rfl rfl ⟨rfl, rfl, rfl, rfl, rfl⟩ rfl rfl rfl rfl rfl (by kernel_rfl) Try.func15 closed
    (of_decide_eq_true (by kernel_rfl)) (by unfold Func.isWrapper; first | (rw [if_pos (by decide +kernel)]; kernel_rfl) | (rw [if_neg (by decide +kernel)]; exact ⟨rfl, rfl⟩))
    (fun os started H enc _ => lifted os started H enc)

/-- THE STATEMENT -/
theorem proved : Rows.FnHexTimesSaid := over
#print axioms proved
end Go.Proofs.Ytahmophmdchiaaa.fnHexTimes
