/- The law FnHexNear returns true at every input and leaves all that was there as it was. No condition. -/
import Derived.Test.YtahmophmdchiaaaBase
import Derived.Test.YtahmophmdchiaaaHexNear
import Derived.Test.YtahmophmdchiaaaHexIn
import Derived.Test.YtahmophmdchiaaaHexAdd
import Derived.Test.YtahmophmdchiaaaHexW
import Derived.Test.YtahmophmdchiaaaDrawH
import Derived.Test.YtahmophmdchiaaaSame
import Derived.Test.YtahmophmdchiaaaHexLaws
namespace Go.Proofs.Ytahmophmdchiaaa.fnHexNear
open Go.ChangeShapes Go.WideShapes Go.ChangeAt Go.RowKit
open Go.ChangeMaps (open_string shut_string)
set_option linter.unusedVariables false

open Gol in
set_option maxHeartbeats 2000000 in
theorem walk (a0 : Option Addr) (len0 cap0 : Nat) (z0 : List Int) (w : World) (w0 : IsRow .u8 w a0 len0 cap0 z0) :
    Calls Try.prog 20 #[.slice a0 len0 cap0] w fun e w' => e = .returned (.bool true) ∧ Below w.heap.size w w' := by
  by_cases hbig : len0 ≤ 1048576
  · have hnot : ¬ (1048576 : Int) < (len0 : Int) := by omega
    have W0 := Lib.hid w0
    clear w0 hbig
    go_enter Try.func20, Try.ntmps20
    go_wp2_with fail
    refine (DrawHexNear_any _ _ _ _ _ W0.out).mono ?_
    rintro e w1 ⟨v, zs, rfl, hr, h6, hb⟩
    have H6 : Hid (zs.length ≤ 1048576) := Lib.hid (Nat.le_trans h6 (by decide))
    clear h6 hnot
    have HI := Lib.hid (fun W => implHexNear_any v zs W)
    have HS := Lib.hid (fun W => specHexNear_any v zs W)
    by_cases hA : rowB zs = true
    · obtain ⟨l, hl, rfl⟩ := rowB_row hA
      obtain ⟨m, t, hm, e1, e2, hin, hwt, ht, hz⟩ := near_facts hl
      have hx := fun t => implHexAdd_any t v (ints m) (ints l)
      rw [addZ_row hm hl, row_rowB hm, row_rowB hl, Bool.and_self] at hx
      rw [hA, e1, e2] at HI HS
      have HX := Lib.hid hx
      have hR := addL_row hm hl
      have HL3 : Hid ((ints m).length ≤ 1048576) := Lib.hid (by rw [row_len hm]; decide)
      have HL4 : Hid ((ints (addL m l)).length ≤ 1048576) := Lib.hid (by rw [row_len hR]; decide)
      have B1 : Hid (hexB (ints m) = true) := Lib.hid (by rw [hexB_row hm]; exact hin)
      have B2 : Hid (hexB (ints l) = decide (t = 0)) := Lib.hid (by rw [hexB_row hl]; exact hz)
      have V := Lib.hid (weightV_row hR)
      rw [hwt] at V
      clear hA hx hR hl hm e1 e2 hin hwt hz
      generalize ints (addL m l) = us at *
      generalize ints m = ys at *
      generalize ints l = zs at *
      by_cases t0 : t = 0
      · subst t0
        have B2 : Hid (hexB zs = true) := Lib.hid (by rw [B2.out]; rfl)
        go_wp2_with fail
        refine (HI.out _ hr H6.out).mono ?_
        rintro e w2 ⟨ao1, co1, rfl, o1, b2⟩
        have k3 := hr.kept b2
        have q4 := hb.trans (b2.mono hb.size)
        go_wp2_with fail
        refine (HS.out _ k3 H6.out).mono ?_
        rintro e w3 ⟨ao5, co5, rfl, o5, b6⟩
        have k7 := k3.kept b6
        have k8 := o1.kept b6
        have q9 := q4.trans (b6.mono q4.size)
        go_wp2_with fail
        refine (sameInts_any _ _ _ _ _ k8.rd o5.rd (Nat.le_trans HL3.out (by decide)) (Nat.le_trans HL3.out (by decide))).mono ?_
        rintro e w4 ⟨rfl, b10⟩
        have k11 := k7.kept b10
        have k12 := k8.kept b10
        have q14 := q9.trans (b10.mono q9.size)
        rw [eqL_self]
        go_wp2_with fail
        refine (HX.out _ _ k12.rd k11 HL3.out H6.out).mono ?_
        rintro e w5 ⟨ao15, co15, rfl, o15, b16⟩
        have k17 := k11.kept b16
        have k18 := k12.kept b16
        have q20 := q14.trans (b16.mono q14.size)
        go_wp2_with fail
        refine (implHexIn_any _ _ _ k18.rd HL3.out).mono ?_
        rintro e w6 ⟨rfl, b21⟩
        have k22 := k17.kept b21
        have k25 := o15.kept b21
        have q26 := q20.trans (b21.mono q20.size)
        rw [B1.out]
        go_wp2_with fail
        refine (implHexWeight_any _ _ _ k25.rd HL4.out).mono ?_
        rintro e w7 ⟨rfl, rfl⟩
        rw [V.out]
        go_wp2_with fail
        refine (implHexIn_any _ _ _ k22 H6.out).mono ?_
        rintro e w8 ⟨rfl, b27⟩
        have q32 := q26.trans (b27.mono q26.size)
        rw [B2.out]
        go_wp2
        go_ret
        exact ⟨rfl, q32⟩
      · have B2 : Hid (hexB zs = false) := Lib.hid (by rw [B2.out]; simp [t0])
        have t1 : ((t : Int) == 0) = false := by simp; omega
        go_wp2_with fail
        refine (HI.out _ hr H6.out).mono ?_
        rintro e w2 ⟨ao1, co1, rfl, o1, b2⟩
        have k3 := hr.kept b2
        have q4 := hb.trans (b2.mono hb.size)
        go_wp2_with fail
        refine (HS.out _ k3 H6.out).mono ?_
        rintro e w3 ⟨ao5, co5, rfl, o5, b6⟩
        have k7 := k3.kept b6
        have k8 := o1.kept b6
        have q9 := q4.trans (b6.mono q4.size)
        go_wp2_with fail
        refine (sameInts_any _ _ _ _ _ k8.rd o5.rd (Nat.le_trans HL3.out (by decide)) (Nat.le_trans HL3.out (by decide))).mono ?_
        rintro e w4 ⟨rfl, b10⟩
        have k11 := k7.kept b10
        have k12 := k8.kept b10
        have q14 := q9.trans (b10.mono q9.size)
        rw [eqL_self]
        go_wp2_with fail
        refine (HX.out _ _ k12.rd k11 HL3.out H6.out).mono ?_
        rintro e w5 ⟨ao15, co15, rfl, o15, b16⟩
        have k17 := k11.kept b16
        have k18 := k12.kept b16
        have q20 := q14.trans (b16.mono q14.size)
        go_wp2_with fail
        refine (implHexIn_any _ _ _ k18.rd HL3.out).mono ?_
        rintro e w6 ⟨rfl, b21⟩
        have k22 := k17.kept b21
        have k25 := o15.kept b21
        have q26 := q20.trans (b21.mono q20.size)
        rw [B1.out]
        go_wp2_with fail
        refine (implHexWeight_any _ _ _ k25.rd HL4.out).mono ?_
        rintro e w7 ⟨rfl, rfl⟩
        rw [V.out]
        go_wp2_with fail
        refine (implHexIn_any _ _ _ k22 H6.out).mono ?_
        rintro e w8 ⟨rfl, b27⟩
        have q32 := q26.trans (b27.mono q26.size)
        rw [B2.out]
        go_wp2
        go_ret
        exact ⟨rfl, q32⟩
    · have hA : rowB zs = false := by simpa using hA
      have hv : nearZ zs = [] := by simp [nearZ, hA]
      have ht : nearT zs = 0 := by simp [nearT, hA]
      rw [hA, hv, ht] at HI HS
      clear hA hv ht
      go_wp2_with fail
      refine (HI.out _ hr H6.out).mono ?_
      rintro e w2 ⟨ao1, co1, rfl, o1, b2⟩
      have k3 := hr.kept b2
      have q4 := hb.trans (b2.mono hb.size)
      go_wp2_with fail
      refine (HS.out _ k3 H6.out).mono ?_
      rintro e w3 ⟨ao5, co5, rfl, o5, b6⟩
      have k8 := o1.kept b6
      have q9 := q4.trans (b6.mono q4.size)
      go_wp2_with fail
      refine (sameInts_any _ _ _ _ _ k8.rd o5.rd (by simp) (by simp)).mono ?_
      rintro e w4 ⟨rfl, b10⟩
      have k12 := k8.kept b10
      have k13 := o5.kept b10
      have q14 := q9.trans (b10.mono q9.size)
      rw [eqL_self]
      go_wp2_with fail
      refine (sameInts_any _ _ _ _ _ k12.rd k13.rd (by simp) (by simp)).mono ?_
      rintro e w5 ⟨rfl, b15⟩
      have q19 := q14.trans (b15.mono q14.size)
      rw [eqL_self]
      go_wp2
      go_ret
      exact ⟨rfl, q19⟩
  · have hnot : (1048576 : Int) < (len0 : Int) := by omega
    go_enter Try.func20, Try.ntmps20
    go_wp2
    go_ret
    exact ⟨rfl, Below.refl _ _⟩

set_option maxRecDepth 100000 in
theorem lifted (os : Os) (started : os.Started) (H : Type) (enc : TypeId × Value → H) :
    ReturnsInHanded {} Try.checked os 20 .any (Rows.fnHexNearSpec.pre6 enc Try.prog Try.f20 Rows.fnHexNearRow.domain false) (Rows.fnHexNearSpec.post enc Try.prog Try.f20 false true false false) := by
  refine returnsInHanded_of_change (C := Try.checked) own started (by kernel_rfl) Try.func20
    (ChangeSpec.witness6 (enc := enc) (C := Try.checked) false ⟨#[], #[.slice none 0 0], []⟩ 8 (by kernel_rfl) (by kernel_rfl) (by kernel_rfl) (by kernel_rfl)) ?_
  intro W base args ds gs before hval0 hW hcnd _
  have hval : ∀ (j : Nat) t v, Try.f20.params[j]? = some t → args[j]? = some v → Value.okWide Try.prog W .any base t v := hval0
  have hW' := hW
  obtain ⟨p, q, hA0, hV, rfl, hfz, hnd⟩ := hW
  have hA : DataW.TrodAll enc Try.prog W 0 (fun _ => true) true Try.f20.params.toList args.toList ds p := hA0
  rw [Try.params20] at hA hval
  obtain ⟨v0, vs0, d0, ds0, p0, q0, hargs, rfl, rfl, h0, r0⟩ := trodAll_cons hA
  obtain ⟨rfl, rfl, rfl⟩ := trodAll_nil r0
  obtain rfl : args = #[v0] := by cases args; simp_all
  obtain ⟨rfl, rfl⟩ := trodVars_none hV
  obtain ⟨a0, len0, cap0, rfl⟩ := okWide_slice Try.underlying24 (hval 0 24 v0 rfl rfl)
  have k0 := h0
  have lt0 : ∀ x ∈ p0, x.block < W.heap.size := by obtain ⟨m, hm⟩ := k0; exact DataW.trod_lt m _ _ _ hm
  obtain ⟨z0, w0⟩ : ∃ zs, IsRow .u8 W a0 len0 cap0 zs := by
    obtain ⟨fuel, hf⟩ := h0
    rcases open_ints Try.underlying24 Try.underlying5 (by kernel_rfl) hf with ⟨hcs, _⟩ | ⟨x, l, c, zs, hcs, _, hl, hm, hz, _, hcell, hwz⟩
    · simp [Value.cells] at hcs
      obtain ⟨rfl, rfl, rfl⟩ := hcs
      exact ⟨[], .inl ⟨rfl, rfl, rfl, rfl⟩⟩
    · simp [Value.cells] at hcs
      obtain ⟨rfl, rfl, rfl⟩ := hcs
      exact ⟨zs, .inr ⟨_, rfl, hl, hm, by simpa using hz, hcell, hwz⟩⟩
  clear hA0 hval0
  refine (walk a0 len0 cap0 z0 W w0).mono fun e W' ⟨he, bel⟩ => ?_
  subst he
  exact ⟨_, rfl, _, _, _, [], _, [], hW', trodAll_mk1 (shut_bool Try.underlying4 _), (trodAll_cons_mk (Below.trod laidOut (by kernel_rfl) (of_decide_eq_true (by kernel_rfl)) k0 bel lt0) trodAll_mk0), rfl, bel.frame _, fun h => by cases h⟩

theorem closed : joinedFacts Try.prog 20 Try.f20 Rows.fnHexNearSpec Rows.fnHexNearRow = true := by
  delta joinedFacts
  repeat' (first | (with_reducible exact mayEnter) | (with_reducible refine liftedF _ ?_) | (with_reducible refine madeC _ ?_) | (with_reducible refine Bool.and_eq_true_iff.2 ⟨?_, ?_⟩))
  all_goals kernel_rfl

theorem over : Rows.fnHexNearRow.holds Try.pinned (OpenSpec.ofChange Rows.fnHexNearSpec) :=
  OpenClaim.holds_of_wide 20 Try.f20 rfl rfl rfl rfl rfl rfl rfl ⟨rfl, rfl, rfl, rfl, rfl⟩ rfl rfl rfl rfl rfl (by kernel_rfl) Try.func20 closed
    (of_decide_eq_true (by kernel_rfl)) (by unfold Func.isWrapper; first | (rw [if_pos (by decide +kernel)]; kernel_rfl) | (rw [if_neg (by decide +kernel)]; exact ⟨rfl, rfl⟩))
    (fun os started H enc _ => lifted os started H enc)

/-- THE STATEMENT -/
theorem proved : Rows.FnHexNearSaid := over
#print axioms proved
end Go.Proofs.Ytahmophmdchiaaa.fnHexNear
