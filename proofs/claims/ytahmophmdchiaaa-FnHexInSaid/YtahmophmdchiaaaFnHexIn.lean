/- The law FnHexIn returns true at every input and leaves all that was there as it was. No condition. -/
import Derived.Test.YtahmophmdchiaaaBase
import Derived.Test.YtahmophmdchiaaaHexIn
import Derived.Test.YtahmophmdchiaaaHexTimes
import Derived.Test.YtahmophmdchiaaaHexInner
import Derived.Test.YtahmophmdchiaaaDrawH
import Derived.Test.YtahmophmdchiaaaSame
import Derived.Test.YtahmophmdchiaaaHexLaws
namespace Go.Proofs.Ytahmophmdchiaaa.fnHexIn
open Go.ChangeShapes Go.WideShapes Go.ChangeAt Go.RowKit
open Go.ChangeMaps (open_string shut_string)
set_option linter.unusedVariables false

open Gol in
set_option maxHeartbeats 2000000 in
theorem walk (a0 : Option Addr) (len0 cap0 : Nat) (z0 : List Int) (w : World) (w0 : IsRow .u8 w a0 len0 cap0 z0) :
    Calls Try.prog 18 #[.slice a0 len0 cap0] w fun e w' => e = .returned (.bool true) ∧ Below w.heap.size w w' := by
  by_cases hbig : len0 ≤ 1048576
  · have hnot : ¬ (1048576 : Int) < (len0 : Int) := by omega
    have W0 := Lib.hid w0
    clear w0 hbig
    go_enter Try.func18, Try.ntmps18
    go_wp2_with fail
    refine (DrawHexIn_any _ _ _ _ _ W0.out).mono ?_
    rintro e w1 ⟨v, zs, rfl, hr, h6, hb⟩
    have H6 : Hid (zs.length ≤ 1048576) := Lib.hid (Nat.le_trans h6 (by decide))
    clear h6 hnot
    by_cases hA : hexB zs = true
    · obtain ⟨l, rfl, hl, h1, h2, h3⟩ := hexB_facts hA
      have HA := Lib.hid hA
      have HT : Hid (timesZ (ints l) 2 = ints (timesL 2 l)) := Lib.hid (timesZ_row hl 2 (by decide))
      have HR := Lib.hid (row_rowB hl)
      have R2 := timesL_row (n := 2) hl (by decide)
      have HR2 := Lib.hid (row_rowB R2)
      have HD := Lib.hid (addZ_row R2 hl)
      have HB2 : Hid (hexB (ints (timesL 2 l)) = true) := Lib.hid (by rw [hexB_row R2]; exact h1)
      have HB3 : Hid (hexB (ints (addL (timesL 2 l) l)) = true) := Lib.hid (by rw [hexB_row (addL_row R2 hl)]; exact h2)
      have HN : Hid (innerZ (ints l) (ints l) = 0) := Lib.hid (by rw [innerZ_row hl hl, h3]; rfl)
      have L2 : Hid ((ints (timesL 2 l)).length ≤ 1048576) := Lib.hid (by rw [row_len R2]; decide)
      have L3 : Hid ((ints (addL (timesL 2 l) l)).length ≤ 1048576) := Lib.hid (by rw [row_len (addL_row R2 hl)]; decide)
      have hx := implHexTimes_any v (ints l) 2
      have hy := fun u => implHexAdd_any u v (ints (timesL 2 l)) (ints l)
      rw [HT.out, HR.out, dig_two, Bool.and_self] at hx
      rw [HD.out, HR.out, HR2.out, Bool.and_self] at hy
      have HX := Lib.hid hx
      have HY := Lib.hid hy
      clear hA hl h1 h2 h3 R2 hx hy HT HD HR HR2
      generalize ints (timesL 2 l) = xs at *
      generalize ints (addL (timesL 2 l) l) = us at *
      generalize ints l = zs at *
      go_wp2_with fail
      refine (implHexIn_any _ _ _ hr H6.out).mono ?_
      rintro e w2 ⟨rfl, b1⟩
      have k2 := hr.kept b1
      have q3 := hb.trans (b1.mono hb.size)
      rw [HA.out]
      go_wp2_with fail
      refine (specHexIn_any _ _ _ k2 H6.out).mono ?_
      rintro e w3 ⟨rfl, b4⟩
      have k5 := k2.kept b4
      have q6 := q3.trans (b4.mono q3.size)
      rw [HA.out]
      go_wp2_with fail
      refine (HX.out _ k5 H6.out).mono ?_
      rintro e w4 ⟨ao7, co7, rfl, o7, b8⟩
      have k9 := k5.kept b8
      have q10 := q6.trans (b8.mono q6.size)
      go_wp2_with fail
      refine (HY.out _ _ o7.rd k9 L2.out H6.out).mono ?_
      rintro e w5 ⟨ao11, co11, rfl, o11, b12⟩
      have k13 := k9.kept b12
      have k14 := o7.kept b12
      have q15 := q10.trans (b12.mono q10.size)
      go_wp2_with fail
      refine (implHexIn_any _ _ _ k14.rd L2.out).mono ?_
      rintro e w6 ⟨rfl, b16⟩
      have k17 := k13.kept b16
      have k19 := o11.kept b16
      have q20 := q15.trans (b16.mono q15.size)
      rw [HB2.out]
      go_wp2_with fail
      refine (implHexIn_any _ _ _ k19.rd L3.out).mono ?_
      rintro e w7 ⟨rfl, b21⟩
      have k22 := k17.kept b21
      have q25 := q20.trans (b21.mono q20.size)
      rw [HB3.out]
      go_wp2_with fail
      refine (implHexInner_any _ _ _ _ _ k22 k22 H6.out H6.out).mono ?_
      rintro e w8 ⟨rfl, b26⟩
      have q30 := q25.trans (b26.mono q25.size)
      rw [HN.out]
      go_wp2
      go_ret
      exact ⟨rfl, q30⟩
    · have HA : Hid (hexB zs = false) := Lib.hid (by simpa using hA)
      clear hA
      go_wp2_with fail
      refine (implHexIn_any _ _ _ hr H6.out).mono ?_
      rintro e w2 ⟨rfl, b1⟩
      have k2 := hr.kept b1
      have q3 := hb.trans (b1.mono hb.size)
      rw [HA.out]
      go_wp2_with fail
      refine (specHexIn_any _ _ _ k2 H6.out).mono ?_
      rintro e w3 ⟨rfl, b4⟩
      have q6 := q3.trans (b4.mono q3.size)
      rw [HA.out]
      go_wp2
      go_ret
      exact ⟨rfl, q6⟩
  · have hnot : (1048576 : Int) < (len0 : Int) := by omega
    go_enter Try.func18, Try.ntmps18
    go_wp2
    go_ret
    exact ⟨rfl, Below.refl _ _⟩

set_option maxRecDepth 100000 in
theorem lifted (os : Os) (started : os.Started) (H : Type) (enc : TypeId × Value → H) :
    ReturnsInHanded {} Try.checked os 18 .any (Rows.fnHexInSpec.pre6 enc Try.prog Try.f18 Rows.fnHexInRow.domain false) (Rows.fnHexInSpec.post enc Try.prog Try.f18 false true false false) := by
  refine returnsInHanded_of_change (C := Try.checked) own started (by kernel_rfl) Try.func18
    (ChangeSpec.witness6 (enc := enc) (C := Try.checked) false ⟨#[], #[.slice none 0 0], []⟩ 8 (by kernel_rfl) (by kernel_rfl) (by kernel_rfl) (by kernel_rfl)) ?_
  intro W base args ds gs before hval0 hW hcnd _
  have hval : ∀ (j : Nat) t v, Try.f18.params[j]? = some t → args[j]? = some v → Value.okWide Try.prog W .any base t v := hval0
  have hW' := hW
  obtain ⟨p, q, hA0, hV, rfl, hfz, hnd⟩ := hW
  have hA : DataW.TrodAll enc Try.prog W 0 (fun _ => true) true Try.f18.params.toList args.toList ds p := hA0
  rw [Try.params18] at hA hval
  obtain ⟨v0, vs0, d0, ds0, p0, q0, hargs, rfl, rfl, h0, r0⟩ := trodAll_cons hA
  obtain ⟨rfl, rfl, rfl⟩ := trodAll_nil r0
  obtain rfl : args = #[v0] := by cases args; simp_all
  obtain ⟨rfl, rfl⟩ := trodVars_none hV
  obtain ⟨a0, len0, cap0, rfl⟩ := okWide_slice Try.underlying24 (hval 0 24 v0 rfl rfl)
  have k0 := h0
  have lt0 : ∀ x ∈ p0, x.block < W.heap.size := by obtain ⟨m, hm⟩ := k0; exact DataW.trod_lt m _ _ _ hm
  obtain ⟨z0, w0⟩ : ∃ zs, IsRow .u8 W a0 len0 cap0 zs := by
    obtain ⟨fuel, hf⟩ := h0
    rcases open_ints Try.underlying24 Try.underlying5 (by kernel_rfl) hf with ⟨hcs, _⟩ | ⟨x, l, c, zs, hcs, _, hl, hm, hz, _, hcell, hwz⟩
    · simp [Value.cells] at hcs
      obtain ⟨rfl, rfl, rfl⟩ := hcs
      exact ⟨[], .inl ⟨rfl, rfl, rfl, rfl⟩⟩
    · simp [Value.cells] at hcs
      obtain ⟨rfl, rfl, rfl⟩ := hcs
      exact ⟨zs, .inr ⟨_, rfl, hl, hm, by simpa using hz, hcell, hwz⟩⟩
  clear hA0 hval0
  refine (walk a0 len0 cap0 z0 W w0).mono fun e W' ⟨he, bel⟩ => ?_
  subst he
  exact ⟨_, rfl, _, _, _, [], _, [], hW', trodAll_mk1 (shut_bool Try.underlying4 _), (trodAll_cons_mk (Below.trod laidOut (by kernel_rfl) (of_decide_eq_true (by kernel_rfl)) k0 bel lt0) trodAll_mk0), rfl, bel.frame _, fun h => by cases h⟩

theorem closed : joinedFacts Try.prog 18 Try.f18 Rows.fnHexInSpec Rows.fnHexInRow = true := by
  delta joinedFacts
  repeat' (first | (with_reducible exact mayEnter) | (with_reducible refine liftedF _ ?_) | (with_reducible refine madeC _ ?_) | (with_reducible refine Bool.and_eq_true_iff.2 ⟨?_, ?_⟩))
  all_goals kernel_rfl

theorem over : Rows.fnHexInRow.holds Try.pinned (OpenSpec.ofChange Rows.fnHexInSpec) :=
  OpenClaim.holds_of_wide 18 Try.f18 rfl rfl rfl rfl rfl rfl rfl ⟨rfl, rfl, rfl, rfl, rfl⟩ rfl rfl rfl rfl rfl (by kernel_rfl) Try.func18 closed
    (of_decide_eq_true (by kernel_rfl)) (by unfold Func.isWrapper; first | (rw [if_pos (by decide +kernel)]; kernel_rfl) | (rw [if_neg (by decide +kernel)]; exact ⟨rfl, rfl⟩))
    (fun os started H enc _ => lifted os started H enc)

/-- THE STATEMENT -/
theorem proved : Rows.FnHexInSaid := over
#print axioms proved
end Go.Proofs.Ytahmophmdchiaaa.fnHexIn
