/- The law FnHexInner returns true at every input and leaves all that was there as it was. No condition. -/
import Derived.Test.YtahmophmdchiaaaBase
import Derived.Test.YtahmophmdchiaaaHexAdd
import Derived.Test.YtahmophmdchiaaaHexInner
import Derived.Test.YtahmophmdchiaaaDigitLaws
import Derived.Test.YtahmophmdchiaaaDrawH
import Derived.Test.YtahmophmdchiaaaHexLaws
namespace Go.Proofs.Ytahmophmdchiaaa.fnHexInner
open Go.ChangeShapes Go.WideShapes Go.ChangeAt Go.RowKit
open Go.ChangeMaps (open_string shut_string)
set_option linter.unusedVariables false

open Gol in
set_option maxHeartbeats 2000000 in
theorem walk (a0 : Option Addr) (len0 cap0 : Nat) (z0 : List Int) (w : World) (w0 : IsRow .u8 w a0 len0 cap0 z0) :
    Calls Try.prog 17 #[.slice a0 len0 cap0] w fun e w' => e = .returned (.bool true) ∧ Below w.heap.size w w' := by
  by_cases hbig : len0 ≤ 1048576
  · have hnot : ¬ (1048576 : Int) < (len0 : Int) := by omega
    have W0 := Lib.hid w0
    clear w0 hbig
    go_enter Try.func17, Try.ntmps17
    go_wp2_with fail
    refine (DrawHexInner_any _ _ _ _ _ W0.out).mono ?_
    rintro e w1 ⟨v, zs, u, ys, rfl, hr, h6, hs, h7, hb⟩
    have H6 : Hid (zs.length ≤ 1048576) := Lib.hid (Nat.le_trans h6 (by decide))
    have H7 : Hid (ys.length ≤ 1048576) := Lib.hid (Nat.le_trans h7 (by decide))
    clear h6 h7 hnot
    by_cases hA : (rowB zs && rowB ys) = true
    · obtain ⟨hA1, hA2⟩ := Bool.and_eq_true_iff.1 hA
      obtain ⟨l, hl, rfl⟩ := rowB_row hA1
      obtain ⟨m, hm, rfl⟩ := rowB_row hA2
      have hR := addL_row hl hm
      have hx := implHexAdd_any v u (ints l) (ints m)
      rw [hA, addZ_row hl hm] at hx
      have HX := Lib.hid hx
      have HL3 : Hid ((ints (addL l m)).length ≤ 1048576) := Lib.hid (by rw [row_len hR]; decide)
      obtain ⟨hi1, hi4⟩ := inner_mirror hl hm
      have hi2 := inner_add hl hm
      have hm4 := (inner_mirror hm hm).2
      have V1 := Lib.hid (innerZ_row hl hm)
      have V2 := Lib.hid (innerZ_row hm hl)
      have V3 := Lib.hid (innerZ_row hR hm)
      have V4 := Lib.hid (innerZ_row hm hm)
      rw [hi1] at V2
      rw [hi2] at V3
      have T1 : Hid (timesV (innerL 0 l m : Nat) (innerL 0 l m : Nat) = ((times (innerL 0 l m) (innerL 0 l m) : Nat) : Int)) := Lib.hid (timesV_nat hi4 hi4)
      have T2 : Hid (addV (innerL 0 l m : Nat) (innerL 0 m m : Nat) = ((innerL 0 l m ^^^ innerL 0 m m : Nat) : Int)) := Lib.hid (addV_nat hi4 hm4)
      clear hA hA1 hA2 hR hx hl hm hi1 hi2 hi4 hm4
      generalize innerL 0 l m = o at *
      generalize innerL 0 m m = p at *
      generalize times o o = s at *
      generalize o ^^^ p = t at *
      generalize ints (addL l m) = us at *
      generalize ints l = zs at *
      generalize ints m = ys at *
      go_wp2_with fail
      refine (implHexInner_any _ _ _ _ _ hr hs H6.out H7.out).mono ?_
      rintro e w2 ⟨rfl, b1⟩
      have k2 := hr.kept b1
      have k3 := hs.kept b1
      have q4 := hb.trans (b1.mono hb.size)
      rw [V1.out]
      go_wp2_with fail
      refine (specHexInner_any _ _ _ _ _ k2 k3 H6.out H7.out).mono ?_
      rintro e w3 ⟨rfl, b5⟩
      have k6 := k2.kept b5
      have k7 := k3.kept b5
      have q8 := q4.trans (b5.mono q4.size)
      rw [V1.out]
      go_wp2_with fail
      refine (HX.out _ k6 k7 H6.out H7.out).mono ?_
      rintro e w4 ⟨ao9, co9, rfl, o9, b10⟩
      have k11 := k6.kept b10
      have k12 := k7.kept b10
      have q13 := q8.trans (b10.mono q8.size)
      go_wp2_with fail
      refine (implHexInner_any _ _ _ _ _ k12 k11 H7.out H6.out).mono ?_
      rintro e w5 ⟨rfl, b14⟩
      have k16 := k12.kept b14
      have k17 := o9.kept b14
      have q18 := q13.trans (b14.mono q13.size)
      rw [V2.out]
      go_wp2_with fail
      refine (implDigitTimes_any _ _ _).mono ?_
      rintro e w6 ⟨rfl, rfl⟩
      rw [T1.out]
      go_wp2_with fail
      refine (implHexInner_any _ _ _ _ _ k17.rd k16 HL3.out H7.out).mono ?_
      rintro e w7 ⟨rfl, b19⟩
      have k21 := k16.kept b19
      have q23 := q18.trans (b19.mono q18.size)
      rw [V3.out]
      go_wp2_with fail
      refine (implHexInner_any _ _ _ _ _ k21 k21 H7.out H7.out).mono ?_
      rintro e w8 ⟨rfl, b24⟩
      have q28 := q23.trans (b24.mono q23.size)
      rw [V4.out]
      go_wp2_with fail
      refine (implDigitAdd_any _ _ _).mono ?_
      rintro e w9 ⟨rfl, rfl⟩
      rw [T2.out]
      go_wp2
      go_ret
      exact ⟨rfl, q28⟩
    · have hA : (rowB zs && rowB ys) = false := by simpa using hA
      have V1 : Hid (innerZ zs ys = -1) := Lib.hid (by rw [innerZ, hA]; rfl)
      clear hA
      go_wp2_with fail
      refine (implHexInner_any _ _ _ _ _ hr hs H6.out H7.out).mono ?_
      rintro e w2 ⟨rfl, b1⟩
      have k2 := hr.kept b1
      have k3 := hs.kept b1
      have q4 := hb.trans (b1.mono hb.size)
      rw [V1.out]
      go_wp2_with fail
      refine (specHexInner_any _ _ _ _ _ k2 k3 H6.out H7.out).mono ?_
      rintro e w3 ⟨rfl, b5⟩
      have q8 := q4.trans (b5.mono q4.size)
      rw [V1.out]
      go_wp2
      go_ret
      exact ⟨rfl, q8⟩
  · have hnot : (1048576 : Int) < (len0 : Int) := by omega
    go_enter Try.func17, Try.ntmps17
    go_wp2
    go_ret
    exact ⟨rfl, Below.refl _ _⟩

set_option maxRecDepth 100000 in
theorem lifted (os : Os) (started : os.Started) (H : Type) (enc : TypeId × Value → H) :
    ReturnsInHanded {} Try.checked os 17 .any (Rows.fnHexInnerSpec.pre6 enc Try.prog Try.f17 Rows.fnHexInnerRow.domain false) (Rows.fnHexInnerSpec.post enc Try.prog Try.f17 false true false false) := by
  refine returnsInHanded_of_change (C := Try.checked) own started (by kernel_rfl) Try.func17
    (ChangeSpec.witness6 (enc := enc) (C := Try.checked) false ⟨#[], #[.slice none 0 0], []⟩ 8 (by kernel_rfl) (by kernel_rfl) (by kernel_rfl) (by kernel_rfl)) ?_
  intro W base args ds gs before hval0 hW hcnd _
  have hval : ∀ (j : Nat) t v, Try.f17.params[j]? = some t → args[j]? = some v → Value.okWide Try.prog W .any base t v := hval0
  have hW' := hW
  obtain ⟨p, q, hA0, hV, rfl, hfz, hnd⟩ := hW
  have hA : DataW.TrodAll enc Try.prog W 0 (fun _ => true) true Try.f17.params.toList args.toList ds p := hA0
  rw [Try.params17] at hA hval
  obtain ⟨v0, vs0, d0, ds0, p0, q0, hargs, rfl, rfl, h0, r0⟩ := trodAll_cons hA
  obtain ⟨rfl, rfl, rfl⟩ := trodAll_nil r0
  obtain rfl : args = #[v0] := by cases args; simp_all
  obtain ⟨rfl, rfl⟩ := trodVars_none hV
  obtain ⟨a0, len0, cap0, rfl⟩ := okWide_slice Try.underlying24 (hval 0 24 v0 rfl rfl)
  have k0 := h0
  have lt0 : ∀ x ∈ p0, x.block < W.heap.size := by obtain ⟨m, hm⟩ := k0; exact DataW.trod_lt m _ _ _ hm
  obtain ⟨z0, w0⟩ : ∃ zs, IsRow .u8 W a0 len0 cap0 zs := by
    obtain ⟨fuel, hf⟩ := h0
    rcases open_ints Try.underlying24 Try.underlying5 (by kernel_rfl) hf with ⟨hcs, _⟩ | ⟨x, l, c, zs, hcs, _, hl, hm, hz, _, hcell, hwz⟩
    · simp [Value.cells] at hcs
      obtain ⟨rfl, rfl, rfl⟩ := hcs
      exact ⟨[], .inl ⟨rfl, rfl, rfl, rfl⟩⟩
    · simp [Value.cells] at hcs
      obtain ⟨rfl, rfl, rfl⟩ := hcs
      exact ⟨zs, .inr ⟨_, rfl, hl, hm, by simpa using hz, hcell, hwz⟩⟩
  clear hA0 hval0
  refine (walk a0 len0 cap0 z0 W w0).mono fun e W' ⟨he, bel⟩ => ?_
  subst he
  exact ⟨_, rfl, _, _, _, [], _, [], hW', trodAll_mk1 (shut_bool Try.underlying4 _), (trodAll_cons_mk (Below.trod laidOut (by kernel_rfl) (of_decide_eq_true (by kernel_rfl)) k0 bel lt0) trodAll_mk0), rfl, bel.frame _, fun h => by cases h⟩

theorem closed : joinedFacts Try.prog 17 Try.f17 Rows.fnHexInnerSpec Rows.fnHexInnerRow = true := by
  delta joinedFacts
  repeat' (first | (with_reducible exact mayEnter) | (with_reducible refine liftedF _ ?_) | (with_reducible refine madeC _ ?_) | (with_reducible refine Bool.and_eq_true_iff.2 ⟨?_, ?_⟩))
  all_goals kernel_rfl

theorem over : Rows.fnHexInnerRow.holds Try.pinned (OpenSpec.ofChange Rows.fnHexInnerSpec) :=
  OpenClaim.holds_of_wide 17 Try.f17 rfl rfl rfl rfl rfl rfl rfl ⟨rfl, rfl, rfl, rfl, rfl⟩ rfl rfl rfl rfl rfl (by kernel_rfl) Try.func17 closed
    (of_decide_eq_true (by kernel_rfl)) (by unfold Func.isWrapper; first | (rw [if_pos (by decide +kernel)]; kernel_rfl) | (rw [if_neg (by decide +kernel)]; exact ⟨rfl, rfl⟩))
    (fun os started H enc _ => lifted os started H enc)

/-- THE STATEMENT -/
theorem proved : Rows.FnHexInnerSaid := over
#print axioms proved
end Go.Proofs.Ytahmophmdchiaaa.fnHexInner
