/- The law FnHexWeight returns true at every input and leaves all that was there as it was. No condition. -/
import Derived.Test.YtahmophmdchiaaaBase
import Derived.Test.YtahmophmdchiaaaHexW
import Derived.Test.YtahmophmdchiaaaDrawH
import Derived.Test.YtahmophmdchiaaaSame
import Derived.Test.YtahmophmdchiaaaHexLaws
namespace Go.Proofs.Ytahmophmdchiaaa.fnHexWeight
open Go.ChangeShapes Go.WideShapes Go.ChangeAt Go.RowKit
open Go.ChangeMaps (open_string shut_string)
set_option linter.unusedVariables false

open Gol in
set_option maxHeartbeats 2000000 in
theorem walk (a0 : Option Addr) (len0 cap0 : Nat) (z0 : List Int) (w : World) (w0 : IsRow .u8 w a0 len0 cap0 z0) :
    Calls Try.prog 13 #[.slice a0 len0 cap0] w fun e w' => e = .returned (.bool true) ∧ Below w.heap.size w w' := by
  by_cases hbig : len0 ≤ 1048576
  · have hnot : ¬ (1048576 : Int) < (len0 : Int) := by omega
    have W0 := Lib.hid w0
    clear w0 hbig
    go_enter Try.func13, Try.ntmps13
    go_wp2_with fail
    refine (DrawHexWeight_any _ _ _ _ _ W0.out).mono ?_
    rintro e w1 ⟨v, zs, rfl, hr, h6, hb⟩
    have H6 := Lib.hid h6
    clear h6 hnot
    by_cases hA : rowB zs = true
    · obtain ⟨l, hl, rfl⟩ := rowB_row hA
      have HV := Lib.hid (weightV_row hl)
      have hw6 := row_wt hl
      have HZ : Hid (decide (wt l = 0) = eqL (ints l) [0, 0, 0, 0, 0, 0]) := Lib.hid (wt_zeros hl)
      clear hA hl
      generalize wt l = n at *
      by_cases hn : n = 0
      · have HE : Hid (eqL (ints l) [0, 0, 0, 0, 0, 0] = true) := Lib.hid (by rw [← HZ.out]; simp [hn])
        subst hn
        go_wp2_with fail
        refine (implHexWeight_any _ _ _ hr (by have := H6.out; omega)).mono ?_
        rintro e w2 ⟨rfl, rfl⟩
        rw [HV.out]
        go_wp2_with fail
        refine (specHexWeight_any _ _ _ hr (by have := H6.out; omega)).mono ?_
        rintro e w3 ⟨rfl, rfl⟩
        rw [HV.out]
        go_wp2_with fail
        refine (sameInts_any _ _ _ _ _ (hr.kept ((Below.refl _ _).alloc (Nat.le_refl _) _)) (lit6 _) (Nat.le_trans H6.out (by decide)) (by simp)).mono ?_
        rintro e w9 ⟨rfl, b9⟩
        rw [HE.out]
        go_wp2
        go_ret
        exact ⟨rfl, (hb.alloc hb.size _).trans (b9.mono (hb.alloc hb.size _).size)⟩
      · have HE : Hid (eqL (ints l) [0, 0, 0, 0, 0, 0] = false) := Lib.hid (by rw [← HZ.out]; simp [hn])
        have hn0 : ((n : Int) == 0) = false := by simp; omega
        go_wp2_with fail
        refine (implHexWeight_any _ _ _ hr (by have := H6.out; omega)).mono ?_
        rintro e w2 ⟨rfl, rfl⟩
        rw [HV.out]
        go_wp2_with fail
        refine (specHexWeight_any _ _ _ hr (by have := H6.out; omega)).mono ?_
        rintro e w3 ⟨rfl, rfl⟩
        rw [HV.out]
        go_wp2_with fail
        refine (sameInts_any _ _ _ _ _ (hr.kept ((Below.refl _ _).alloc (Nat.le_refl _) _)) (lit6 _) (Nat.le_trans H6.out (by decide)) (by simp)).mono ?_
        rintro e w9 ⟨rfl, b9⟩
        rw [HE.out]
        go_wp2
        go_ret
        exact ⟨rfl, (hb.alloc hb.size _).trans (b9.mono (hb.alloc hb.size _).size)⟩
    · have hA : rowB zs = false := by simpa using hA
      have HV : Hid (weightV zs = -1) := Lib.hid (by simp [weightV, hA])
      go_wp2_with fail
      refine (implHexWeight_any _ _ _ hr (by have := H6.out; omega)).mono ?_
      rintro e w2 ⟨rfl, rfl⟩
      rw [HV.out]
      go_wp2_with fail
      refine (specHexWeight_any _ _ _ hr (by have := H6.out; omega)).mono ?_
      rintro e w3 ⟨rfl, rfl⟩
      rw [HV.out]
      go_wp2
      go_ret
      exact ⟨rfl, hb⟩
  · have hnot : (1048576 : Int) < (len0 : Int) := by omega
    go_enter Try.func13, Try.ntmps13
    go_wp2
    go_ret
    exact ⟨rfl, Below.refl _ _⟩

set_option maxRecDepth 100000 in
theorem lifted (os : Os) (started : os.Started) (H : Type) (enc : TypeId × Value → H) :
    ReturnsInHanded {} Try.checked os 13 .any (Rows.fnHexWeightSpec.pre6 enc Try.prog Try.f13 Rows.fnHexWeightRow.domain false) (Rows.fnHexWeightSpec.post enc Try.prog Try.f13 false true false false) := by
  refine returnsInHanded_of_change (C := Try.checked) own started (by kernel_rfl) Try.func13
    (ChangeSpec.witness6 (enc := enc) (C := Try.checked) false ⟨#[], #[.slice none 0 0], []⟩ 8 (by kernel_rfl) (by kernel_rfl) (by kernel_rfl) (by kernel_rfl)) ?_
  intro W base args ds gs before hval0 hW hcnd _
  have hval : ∀ (j : Nat) t v, Try.f13.params[j]? = some t → args[j]? = some v → Value.okWide Try.prog W .any base t v := hval0
  have hW' := hW
  obtain ⟨p, q, hA0, hV, rfl, hfz, hnd⟩ := hW
  have hA : DataW.TrodAll enc Try.prog W 0 (fun _ => true) true Try.f13.params.toList args.toList ds p := hA0
  rw [Try.params13] at hA hval
  obtain ⟨v0, vs0, d0, ds0, p0, q0, hargs, rfl, rfl, h0, r0⟩ := trodAll_cons hA
  obtain ⟨rfl, rfl, rfl⟩ := trodAll_nil r0
  obtain rfl : args = #[v0] := by cases args; simp_all
  obtain ⟨rfl, rfl⟩ := trodVars_none hV
  obtain ⟨a0, len0, cap0, rfl⟩ := okWide_slice Try.underlying24 (hval 0 24 v0 rfl rfl)
  have k0 := h0
  have lt0 : ∀ x ∈ p0, x.block < W.heap.size := by obtain ⟨m, hm⟩ := k0; exact DataW.trod_lt m _ _ _ hm
  obtain ⟨z0, w0⟩ : ∃ zs, IsRow .u8 W a0 len0 cap0 zs := by
    obtain ⟨fuel, hf⟩ := h0
    rcases open_ints Try.underlying24 Try.underlying5 (by kernel_rfl) hf with ⟨hcs, _⟩ | ⟨x, l, c, zs, hcs, _, hl, hm, hz, _, hcell, hwz⟩
    · simp [Value.cells] at hcs
      obtain ⟨rfl, rfl, rfl⟩ := hcs
      exact ⟨[], .inl ⟨rfl, rfl, rfl, rfl⟩⟩
    · simp [Value.cells] at hcs
      obtain ⟨rfl, rfl, rfl⟩ := hcs
      exact ⟨zs, .inr ⟨_, rfl, hl, hm, by simpa using hz, hcell, hwz⟩⟩
  clear hA0 hval0
  refine (walk a0 len0 cap0 z0 W w0).mono fun e W' ⟨he, bel⟩ => ?_
  subst he
  exact ⟨_, rfl, _, _, _, [], _, [], hW', trodAll_mk1 (shut_bool Try.underlying4 _), (trodAll_cons_mk (Below.trod laidOut (by kernel_rfl) (of_decide_eq_true (by kernel_rfl)) k0 bel lt0) trodAll_mk0), rfl, bel.frame _, fun h => by cases h⟩

theorem closed : joinedFacts Try.prog 13 Try.f13 Rows.fnHexWeightSpec Rows.fnHexWeightRow = true := by
  delta joinedFacts
  repeat' (first | (with_reducible exact mayEnter) | (with_reducible refine liftedF _ ?_) | (with_reducible refine madeC _ ?_) | (with_reducible refine Bool.and_eq_true_iff.2 ⟨?_, ?_⟩))
  all_goals kernel_rfl

theorem over : Rows.fnHexWeightRow.holds Try.pinned (OpenSpec.ofChange Rows.fnHexWeightSpec) :=
  OpenClaim.holds_of_wide 13 Try.f13 rfl rfl rfl rfl rfl rfl rfl ⟨rfl, rfl, rfl, rfl, rfl⟩ rfl rfl rfl rfl rfl (by kernel_rfl) Try.func13 closed
    (of_decide_eq_true (by kernel_rfl)) (by unfold Func.isWrapper; first | (rw [if_pos (by decide +kernel)]; kernel_rfl) | (rw [if_neg (by decide +kernel)]; exact ⟨rfl, rfl⟩))
    (fun os started H enc _ => lifted os started H enc)

/-- THE STATEMENT -/
theorem proved : Rows.FnHexWeightSaid := over
#print axioms proved
end Go.Proofs.Ytahmophmdchiaaa.fnHexWeight
