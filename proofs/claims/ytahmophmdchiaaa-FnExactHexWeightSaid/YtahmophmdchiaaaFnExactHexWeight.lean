/- The law FnExactHexWeight returns true at every input and leaves all that was there as it was. No condition. -/
import Derived.Test.YtahmophmdchiaaaBase
import Derived.Test.YtahmophmdchiaaaHexW
import Derived.Test.YtahmophmdchiaaaSlices
namespace Go.Proofs.Ytahmophmdchiaaa.fnExactHexWeight
open Go.ChangeShapes Go.WideShapes Go.ChangeAt Go.RowKit
open Go.ChangeMaps (open_string shut_string)
set_option linter.unusedVariables false

open Gol in
set_option maxHeartbeats 1000000 in
theorem walk (a0 : Option Addr) (len0 cap0 : Nat) (z0 : List Int) (w : World) (w0 : IsRow .i64 w a0 len0 cap0 z0) :
    Calls Try.prog 6 #[.slice a0 len0 cap0] w fun e w' => e = .returned (.bool true) ∧ Below w.heap.size w w' := by
  by_cases hbig : len0 ≤ 1048576
  · obtain ⟨zs, hlen, hr⟩ := w0.rd
    have HL : Hid (zs.length ≤ 1048576) := (by rw [hlen]; exact hbig : zs.length ≤ 1048576)
    have hnot : ¬ (1048576 : Int) < (len0 : Int) := by omega
    clear w0 hbig hlen
    generalize hR : weightV zs = R
    have HR := Lib.hid hR; clear hR
    go_enter Try.func6, Try.ntmps6
    go_wp2_with fail
    refine (toInt_any _ zs _ hr HL.out).mono ?_
    rintro e w1 ⟨a1, c1, rfl, ho1, hb1⟩
    have r1 := hr.kept hb1
    go_wp2_with fail
    refine (specHexWeight_any _ zs _ ho1.rd HL.out).mono ?_
    rintro e w2 ⟨rfl, rfl⟩
    rw [HR.out]
    go_wp2_with fail
    refine (toInt_any _ zs _ r1 HL.out).mono ?_
    rintro e w3 ⟨a3, c3, rfl, ho3, hb3⟩
    have r3 := r1.kept hb3
    go_wp2_with fail
    refine (implHexWeight_any _ zs _ ho3.rd HL.out).mono ?_
    rintro e w4 ⟨rfl, rfl⟩
    rw [HR.out]
    go_wp2_with fail
    refine (toInt_any _ zs _ r3 HL.out).mono ?_
    rintro e w5 ⟨a5, c5, rfl, ho5, hb5⟩
    have k3 := ho3.kept hb5
    go_wp2_with fail
    refine (eqSame _ _ _ _ k3.rd ho5.rd (by have := HL.out; omega)).mono ?_
    rintro e w6 ⟨rfl, hb6⟩
    go_wp2
    go_ret
    refine ⟨rfl, ?_⟩
    have q3 := hb1.trans (hb3.mono hb1.size)
    have q5 := q3.trans (hb5.mono q3.size)
    exact q5.trans (hb6.mono q5.size)
  · have hbig' : (1048576 : Int) < (len0 : Int) := by omega
    go_enter Try.func6, Try.ntmps6
    go_wp2
    go_ret
    exact ⟨rfl, Below.refl _ _⟩

set_option maxRecDepth 100000 in
theorem lifted (os : Os) (started : os.Started) (H : Type) (enc : TypeId × Value → H) :
    ReturnsInHanded {} Try.checked os 6 .any (Rows.fnExactHexWeightSpec.pre6 enc Try.prog Try.f6 Rows.fnExactHexWeightRow.domain false) (Rows.fnExactHexWeightSpec.post enc Try.prog Try.f6 false true false false) := by
  refine returnsInHanded_of_change (C := Try.checked) own started (by kernel_rfl) Try.func6
    (ChangeSpec.witness6 (enc := enc) (C := Try.checked) false ⟨#[], #[.slice none 0 0], []⟩ 8 (by kernel_rfl) (by kernel_rfl) (by kernel_rfl) (by kernel_rfl)) ?_
  intro W base args ds gs before hval0 hW hcnd _
  have hval : ∀ (j : Nat) t v, Try.f6.params[j]? = some t → args[j]? = some v → Value.okWide Try.prog W .any base t v := hval0
  have hW' := hW
  obtain ⟨p, q, hA0, hV, rfl, hfz, hnd⟩ := hW
  have hA : DataW.TrodAll enc Try.prog W 0 (fun _ => true) true Try.f6.params.toList args.toList ds p := hA0
  rw [Try.params6] at hA hval
  obtain ⟨v0, vs0, d0, ds0, p0, q0, hargs, rfl, rfl, h0, r0⟩ := trodAll_cons hA
  obtain ⟨rfl, rfl, rfl⟩ := trodAll_nil r0
  obtain rfl : args = #[v0] := by cases args; simp_all
  obtain ⟨rfl, rfl⟩ := trodVars_none hV
  obtain ⟨a0, len0, cap0, rfl⟩ := okWide_slice Try.underlying28 (hval 0 28 v0 rfl rfl)
  have k0 := h0
  have lt0 : ∀ x ∈ p0, x.block < W.heap.size := by obtain ⟨m, hm⟩ := k0; exact DataW.trod_lt m _ _ _ hm
  obtain ⟨z0, w0⟩ : ∃ zs, IsRow .i64 W a0 len0 cap0 zs := by
    obtain ⟨fuel, hf⟩ := h0
    rcases open_ints Try.underlying28 Try.underlying3 (by kernel_rfl) hf with ⟨hcs, _⟩ | ⟨x, l, c, zs, hcs, _, hl, hm, hz, _, hcell, hwz⟩
    · simp [Value.cells] at hcs
      obtain ⟨rfl, rfl, rfl⟩ := hcs
      exact ⟨[], .inl ⟨rfl, rfl, rfl, rfl⟩⟩
    · simp [Value.cells] at hcs
      obtain ⟨rfl, rfl, rfl⟩ := hcs
      exact ⟨zs, .inr ⟨_, rfl, hl, hm, by simpa using hz, hcell, hwz⟩⟩
  clear hA0 hval0
  refine (walk a0 len0 cap0 z0 W w0).mono fun e W' ⟨he, bel⟩ => ?_
  subst he
  exact ⟨_, rfl, _, _, _, [], _, [], hW', trodAll_mk1 (shut_bool Try.underlying4 _), (trodAll_cons_mk (Below.trod laidOut (by kernel_rfl) (of_decide_eq_true (by kernel_rfl)) k0 bel lt0) trodAll_mk0), rfl, bel.frame _, fun h => by cases h⟩

theorem closed : joinedFacts Try.prog 6 Try.f6 Rows.fnExactHexWeightSpec Rows.fnExactHexWeightRow = true := by
  delta joinedFacts
  repeat' (first | (with_reducible exact mayEnter) | (with_reducible refine liftedF _ ?_) | (with_reducible refine madeC _ ?_) | (with_reducible refine Bool.and_eq_true_iff.2 ⟨?_, ?_⟩))
  all_goals kernel_rfl

theorem over : Rows.fnExactHexWeightRow.holds Try.pinned (OpenSpec.ofChange Rows.fnExactHexWeightSpec) :=
  OpenClaim.holds_of_wide 6 Try.f6 rfl rfl rfl rfl rfl rfl rfl ⟨rfl, rfl, rfl, rfl, rfl⟩ rfl rfl rfl rfl rfl (by kernel_rfl) Try.func6 closed
    (of_decide_eq_true (by kernel_rfl)) (by unfold Func.isWrapper; first | (rw [if_pos (by decide +kernel)]; kernel_rfl) | (rw [if_neg (by decide +kernel)]; exact ⟨rfl, rfl⟩))
    (fun os started H enc _ => lifted os started H enc)

/-- THE STATEMENT -/
theorem proved : Rows.FnExactHexWeightSaid := over
#print axioms proved
end Go.Proofs.Ytahmophmdchiaaa.fnExactHexWeight
