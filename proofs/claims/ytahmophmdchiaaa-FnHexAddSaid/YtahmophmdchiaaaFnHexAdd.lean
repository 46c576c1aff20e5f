/- The law FnHexAdd returns true at every input and leaves all that was there as it was. No condition. -/
import Derived.Test.YtahmophmdchiaaaBase
import Derived.Test.YtahmophmdchiaaaHexIn
import Derived.Test.YtahmophmdchiaaaHexAdd
import Derived.Test.YtahmophmdchiaaaHexInner
import Derived.Test.YtahmophmdchiaaaDrawH
import Derived.Test.YtahmophmdchiaaaSame
import Derived.Test.YtahmophmdchiaaaHexLaws
namespace Go.Proofs.Ytahmophmdchiaaa.fnHexAdd
open Go.ChangeShapes Go.WideShapes Go.ChangeAt Go.RowKit
open Go.ChangeMaps (open_string shut_string)
set_option linter.unusedVariables false

open Gol in
set_option maxHeartbeats 2000000 in
theorem walk (a0 : Option Addr) (len0 cap0 : Nat) (z0 : List Int) (w : World) (w0 : IsRow .u8 w a0 len0 cap0 z0) :
    Calls Try.prog 19 #[.slice a0 len0 cap0] w fun e w' => e = .returned (.bool true) ∧ Below w.heap.size w w' := by
  by_cases hbig : len0 ≤ 1048576
  · have hnot : ¬ (1048576 : Int) < (len0 : Int) := by omega
    have W0 := Lib.hid w0
    clear w0 hbig
    go_enter Try.func19, Try.ntmps19
    go_wp2_with fail
    refine (DrawHexAdd_any _ _ _ _ _ W0.out).mono ?_
    rintro e w1 ⟨v, zs, u, ys, rfl, hr, h6, hs, h7, hb⟩
    have H6 : Hid (zs.length ≤ 1048576) := Lib.hid (Nat.le_trans h6 (by decide))
    have H7 : Hid (ys.length ≤ 1048576) := Lib.hid (Nat.le_trans h7 (by decide))
    clear h6 h7 hnot
    have HI := Lib.hid (fun W => implHexAdd_any v u zs ys W)
    have HS := Lib.hid (fun W => specHexAdd_any v u zs ys W)
    by_cases hA : (rowB zs && rowB ys) = true
    · obtain ⟨hA1, hA2⟩ := Bool.and_eq_true_iff.1 hA
      obtain ⟨l, hl, rfl⟩ := rowB_row hA1
      obtain ⟨m, hm, rfl⟩ := rowB_row hA2
      have hR := addL_row hl hm
      have hx := fun t => implHexAdd_any t u (ints (addL l m)) (ints m)
      rw [hA, addZ_row hl hm] at HI HS
      rw [addZ_row hR hm, addL_addL hl hm, row_rowB hR, row_rowB hm, Bool.and_self] at hx
      have HX := Lib.hid hx
      have HL3 : Hid ((ints (addL l m)).length ≤ 1048576) := Lib.hid (by rw [row_len hR]; decide)
      have HP : Hid (inHex l = true → inHex m = true → hexB (ints (addL l m)) = true ∧ innerZ (ints l) (ints m) = 0) := Lib.hid (hex_pair hl hm)
      have B1 := Lib.hid (hexB_row hl)
      have B2 := Lib.hid (hexB_row hm)
      clear hA hA1 hA2 hR hx hl hm
      generalize ints (addL l m) = us at *
      generalize inHex l = i1 at *
      generalize inHex m = i2 at *
      generalize ints l = zs at *
      generalize ints m = ys at *
      cases i1 with
      | true =>
        cases i2 with
        | true =>
          have P1 := Lib.hid (HP.out rfl rfl).1
          have P2 := Lib.hid (HP.out rfl rfl).2
          clear HP
          go_wp2_with fail
          refine (HI.out _ hr hs H6.out H7.out).mono ?_
          rintro e w2 ⟨ao1, co1, rfl, o1, b2⟩
          have k3 := hr.kept b2
          have k4 := hs.kept b2
          have q5 := hb.trans (b2.mono hb.size)
          go_wp2_with fail
          refine (HS.out _ k3 k4 H6.out H7.out).mono ?_
          rintro e w3 ⟨ao6, co6, rfl, o6, b7⟩
          have k8 := k3.kept b7
          have k9 := k4.kept b7
          have k10 := o1.kept b7
          have q11 := q5.trans (b7.mono q5.size)
          go_wp2_with fail
          refine (sameInts_any _ _ _ _ _ k10.rd o6.rd (Nat.le_trans HL3.out (by decide)) (Nat.le_trans HL3.out (by decide))).mono ?_
          rintro e w4 ⟨rfl, b12⟩
          have k13 := k8.kept b12
          have k14 := k9.kept b12
          have k15 := k10.kept b12
          have k16 := o6.kept b12
          have q17 := q11.trans (b12.mono q11.size)
          rw [eqL_self]
          go_wp2_with fail
          refine (HX.out _ _ k15.rd k14 HL3.out H7.out).mono ?_
          rintro e w5 ⟨ao18, co18, rfl, o18, b19⟩
          have k20 := k13.kept b19
          have k21 := k14.kept b19
          have k22 := k15.kept b19
          have k23 := k16.kept b19
          have q24 := q17.trans (b19.mono q17.size)
          go_wp2_with fail
          refine (implHexIn_any _ _ _ k20 H6.out).mono ?_
          rintro e w6 ⟨rfl, b25⟩
          have k26 := k20.kept b25
          have k27 := k21.kept b25
          have k28 := k22.kept b25
          have k29 := k23.kept b25
          have k30 := o18.kept b25
          have q31 := q24.trans (b25.mono q24.size)
          rw [B1.out]
          go_wp2_with fail
          refine (implHexIn_any _ _ _ k27 H7.out).mono ?_
          rintro e w7 ⟨rfl, b32⟩
          have k33 := k26.kept b32
          have k34 := k27.kept b32
          have k35 := k28.kept b32
          have k36 := k29.kept b32
          have k37 := k30.kept b32
          have q38 := q31.trans (b32.mono q31.size)
          rw [B2.out]
          go_wp2_with fail
          refine (sameInts_any _ _ _ _ _ k37.rd k33 (Nat.le_trans H6.out (by decide)) (Nat.le_trans H6.out (by decide))).mono ?_
          rintro e w8 ⟨rfl, b39⟩
          have k40 := k33.kept b39
          have k41 := k34.kept b39
          have k42 := k35.kept b39
          have k43 := k36.kept b39
          have k44 := k37.kept b39
          have q45 := q38.trans (b39.mono q38.size)
          rw [eqL_self]
          go_wp2_with fail
          refine (implHexIn_any _ _ _ k42.rd HL3.out).mono ?_
          rintro e w9 ⟨rfl, b46⟩
          have k47 := k40.kept b46
          have k48 := k41.kept b46
          have k49 := k42.kept b46
          have k50 := k43.kept b46
          have k51 := k44.kept b46
          have q52 := q45.trans (b46.mono q45.size)
          rw [P1.out]
          go_wp2_with fail
          refine (implHexInner_any _ _ _ _ _ k47 k48 H6.out H7.out).mono ?_
          rintro e w10 ⟨rfl, b53⟩
          have k54 := k47.kept b53
          have k55 := k48.kept b53
          have k56 := k49.kept b53
          have k57 := k50.kept b53
          have k58 := k51.kept b53
          have q59 := q52.trans (b53.mono q52.size)
          rw [P2.out]
          go_wp2
          go_ret
          exact ⟨rfl, q59⟩
        | false =>
          clear HP
          go_wp2_with fail
          refine (HI.out _ hr hs H6.out H7.out).mono ?_
          rintro e w2 ⟨ao1, co1, rfl, o1, b2⟩
          have k3 := hr.kept b2
          have k4 := hs.kept b2
          have q5 := hb.trans (b2.mono hb.size)
          go_wp2_with fail
          refine (HS.out _ k3 k4 H6.out H7.out).mono ?_
          rintro e w3 ⟨ao6, co6, rfl, o6, b7⟩
          have k8 := k3.kept b7
          have k9 := k4.kept b7
          have k10 := o1.kept b7
          have q11 := q5.trans (b7.mono q5.size)
          go_wp2_with fail
          refine (sameInts_any _ _ _ _ _ k10.rd o6.rd (Nat.le_trans HL3.out (by decide)) (Nat.le_trans HL3.out (by decide))).mono ?_
          rintro e w4 ⟨rfl, b12⟩
          have k13 := k8.kept b12
          have k14 := k9.kept b12
          have k15 := k10.kept b12
          have k16 := o6.kept b12
          have q17 := q11.trans (b12.mono q11.size)
          rw [eqL_self]
          go_wp2_with fail
          refine (HX.out _ _ k15.rd k14 HL3.out H7.out).mono ?_
          rintro e w5 ⟨ao18, co18, rfl, o18, b19⟩
          have k20 := k13.kept b19
          have k21 := k14.kept b19
          have k22 := k15.kept b19
          have k23 := k16.kept b19
          have q24 := q17.trans (b19.mono q17.size)
          go_wp2_with fail
          refine (implHexIn_any _ _ _ k20 H6.out).mono ?_
          rintro e w6 ⟨rfl, b25⟩
          have k26 := k20.kept b25
          have k27 := k21.kept b25
          have k28 := k22.kept b25
          have k29 := k23.kept b25
          have k30 := o18.kept b25
          have q31 := q24.trans (b25.mono q24.size)
          rw [B1.out]
          go_wp2_with fail
          refine (implHexIn_any _ _ _ k27 H7.out).mono ?_
          rintro e w7 ⟨rfl, b32⟩
          have k33 := k26.kept b32
          have k34 := k27.kept b32
          have k35 := k28.kept b32
          have k36 := k29.kept b32
          have k37 := k30.kept b32
          have q38 := q31.trans (b32.mono q31.size)
          rw [B2.out]
          go_wp2_with fail
          refine (sameInts_any _ _ _ _ _ k37.rd k33 (Nat.le_trans H6.out (by decide)) (Nat.le_trans H6.out (by decide))).mono ?_
          rintro e w8 ⟨rfl, b39⟩
          have k40 := k33.kept b39
          have k41 := k34.kept b39
          have k42 := k35.kept b39
          have k43 := k36.kept b39
          have k44 := k37.kept b39
          have q45 := q38.trans (b39.mono q38.size)
          rw [eqL_self]
          go_wp2
          go_ret
          exact ⟨rfl, q45⟩
      | false =>
        clear HP
        go_wp2_with fail
        refine (HI.out _ hr hs H6.out H7.out).mono ?_
        rintro e w2 ⟨ao1, co1, rfl, o1, b2⟩
        have k3 := hr.kept b2
        have k4 := hs.kept b2
        have q5 := hb.trans (b2.mono hb.size)
        go_wp2_with fail
        refine (HS.out _ k3 k4 H6.out H7.out).mono ?_
        rintro e w3 ⟨ao6, co6, rfl, o6, b7⟩
        have k8 := k3.kept b7
        have k9 := k4.kept b7
        have k10 := o1.kept b7
        have q11 := q5.trans (b7.mono q5.size)
        go_wp2_with fail
        refine (sameInts_any _ _ _ _ _ k10.rd o6.rd (Nat.le_trans HL3.out (by decide)) (Nat.le_trans HL3.out (by decide))).mono ?_
        rintro e w4 ⟨rfl, b12⟩
        have k13 := k8.kept b12
        have k14 := k9.kept b12
        have k15 := k10.kept b12
        have k16 := o6.kept b12
        have q17 := q11.trans (b12.mono q11.size)
        rw [eqL_self]
        go_wp2_with fail
        refine (HX.out _ _ k15.rd k14 HL3.out H7.out).mono ?_
        rintro e w5 ⟨ao18, co18, rfl, o18, b19⟩
        have k20 := k13.kept b19
        have k21 := k14.kept b19
        have k22 := k15.kept b19
        have k23 := k16.kept b19
        have q24 := q17.trans (b19.mono q17.size)
        go_wp2_with fail
        refine (implHexIn_any _ _ _ k20 H6.out).mono ?_
        rintro e w6 ⟨rfl, b25⟩
        have k26 := k20.kept b25
        have k27 := k21.kept b25
        have k28 := k22.kept b25
        have k29 := k23.kept b25
        have k30 := o18.kept b25
        have q31 := q24.trans (b25.mono q24.size)
        rw [B1.out]
        go_wp2_with fail
        refine (sameInts_any _ _ _ _ _ k30.rd k26 (Nat.le_trans H6.out (by decide)) (Nat.le_trans H6.out (by decide))).mono ?_
        rintro e w7 ⟨rfl, b32⟩
        have k33 := k26.kept b32
        have k34 := k27.kept b32
        have k35 := k28.kept b32
        have k36 := k29.kept b32
        have k37 := k30.kept b32
        have q38 := q31.trans (b32.mono q31.size)
        rw [eqL_self]
        go_wp2
        go_ret
        exact ⟨rfl, q38⟩
    · have hA : (rowB zs && rowB ys) = false := by simpa using hA
      have hv : addZ zs ys = [] := by rw [addZ, hA]; rfl
      rw [hA, hv] at HI HS
      clear hA hv
      go_wp2_with fail
      refine (HI.out _ hr hs H6.out H7.out).mono ?_
      rintro e w2 ⟨ao1, co1, rfl, o1, b2⟩
      have k3 := hr.kept b2
      have k4 := hs.kept b2
      have q5 := hb.trans (b2.mono hb.size)
      go_wp2_with fail
      refine (HS.out _ k3 k4 H6.out H7.out).mono ?_
      rintro e w3 ⟨ao6, co6, rfl, o6, b7⟩
      have k10 := o1.kept b7
      have q11 := q5.trans (b7.mono q5.size)
      go_wp2_with fail
      refine (sameInts_any _ _ _ _ _ k10.rd o6.rd (by simp) (by simp)).mono ?_
      rintro e w4 ⟨rfl, b12⟩
      have k15 := k10.kept b12
      have k16 := o6.kept b12
      have q17 := q11.trans (b12.mono q11.size)
      rw [eqL_self]
      go_wp2_with fail
      refine (sameInts_any _ _ _ _ _ k15.rd k16.rd (by simp) (by simp)).mono ?_
      rintro e w5 ⟨rfl, b18⟩
      have q23 := q17.trans (b18.mono q17.size)
      rw [eqL_self]
      go_wp2
      go_ret
      exact ⟨rfl, q23⟩
  · have hnot : (1048576 : Int) < (len0 : Int) := by omega
    go_enter Try.func19, Try.ntmps19
    go_wp2
    go_ret
    exact ⟨rfl, Below.refl _ _⟩

set_option maxRecDepth 100000 in
theorem lifted (os : Os) (started : os.Started) (H : Type) (enc : TypeId × Value → H) :
    ReturnsInHanded {} Try.checked os 19 .any (Rows.fnHexAddSpec.pre6 enc Try.prog Try.f19 Rows.fnHexAddRow.domain false) (Rows.fnHexAddSpec.post enc Try.prog Try.f19 false true false false) := by
  refine returnsInHanded_of_change (C := Try.checked) own started (by kernel_rfl) Try.func19
    (ChangeSpec.witness6 (enc := enc) (C := Try.checked) false ⟨#[], #[.slice none 0 0], []⟩ 8 (by kernel_rfl) (by kernel_rfl) (by kernel_rfl) (by kernel_rfl)) ?_
  intro W base args ds gs before hval0 hW hcnd _
  have hval : ∀ (j : Nat) t v, Try.f19.params[j]? = some t → args[j]? = some v → Value.okWide Try.prog W .any base t v := hval0
  have hW' := hW
  obtain ⟨p, q, hA0, hV, rfl, hfz, hnd⟩ := hW
  have hA : DataW.TrodAll enc Try.prog W 0 (fun _ => true) true Try.f19.params.toList args.toList ds p := hA0
  rw [Try.params19] at hA hval
  obtain ⟨v0, vs0, d0, ds0, p0, q0, hargs, rfl, rfl, h0, r0⟩ := trodAll_cons hA
  obtain ⟨rfl, rfl, rfl⟩ := trodAll_nil r0
  obtain rfl : args = #[v0] := by cases args; simp_all
  obtain ⟨rfl, rfl⟩ := trodVars_none hV
  obtain ⟨a0, len0, cap0, rfl⟩ := okWide_slice Try.underlying24 (hval 0 24 v0 rfl rfl)
  have k0 := h0
  have lt0 : ∀ x ∈ p0, x.block < W.heap.size := by obtain ⟨m, hm⟩ := k0; exact DataW.trod_lt m _ _ _ hm
  obtain ⟨z0, w0⟩ : ∃ zs, IsRow .u8 W a0 len0 cap0 zs := by
    obtain ⟨fuel, hf⟩ := h0
    rcases open_ints Try.underlying24 Try.underlying5 (by kernel_rfl) hf with ⟨hcs, _⟩ | ⟨x, l, c, zs, hcs, _, hl, hm, hz, _, hcell, hwz⟩
    · simp [Value.cells] at hcs
      obtain ⟨rfl, rfl, rfl⟩ := hcs
      exact ⟨[], .inl ⟨rfl, rfl, rfl, rfl⟩⟩
    · simp [Value.cells] at hcs
      obtain ⟨rfl, rfl, rfl⟩ := hcs
      exact ⟨zs, .inr ⟨_, rfl, hl, hm, by simpa using hz, hcell, hwz⟩⟩
  clear hA0 hval0
  refine (walk a0 len0 cap0 z0 W w0).mono fun e W' ⟨he, bel⟩ => ?_
  subst he
  exact ⟨_, rfl, _, _, _, [], _, [], hW', trodAll_mk1 (shut_bool Try.underlying4 _), (trodAll_cons_mk (Below.trod laidOut (by kernel_rfl) (of_decide_eq_true (by kernel_rfl)) k0 bel lt0) trodAll_mk0), rfl, bel.frame _, fun h => by cases h⟩

theorem closed : joinedFacts Try.prog 19 Try.f19 Rows.fnHexAddSpec Rows.fnHexAddRow = true := by
  delta joinedFacts
  repeat' (first | (with_reducible exact mayEnter) | (with_reducible refine liftedF _ ?_) | (with_reducible refine madeC _ ?_) | (with_reducible refine Bool.and_eq_true_iff.2 ⟨?_, ?_⟩))
  all_goals kernel_rfl

theorem over : Rows.fnHexAddRow.holds Try.pinned (OpenSpec.ofChange Rows.fnHexAddSpec) :=
  OpenClaim.holds_of_wide 19 Try.f19 rfl rfl rfl rfl rfl rfl rfl ⟨rfl, rfl, rfl, rfl, rfl⟩ rfl rfl rfl rfl rfl (by kernel_rfl) Try.func19 closed
    (of_decide_eq_true (by kernel_rfl)) (by unfold Func.isWrapper; first | (rw [if_pos (by decide +kernel)]; kernel_rfl) | (rw [if_neg (by decide +kernel)]; exact ⟨rfl, rfl⟩))
    (fun os started H enc _ => lifted os started H enc)

/-- THE STATEMENT -/
theorem proved : Rows.FnHexAddSaid := over
#print axioms proved
end Go.Proofs.Ytahmophmdchiaaa.fnHexAdd
