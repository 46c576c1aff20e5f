/- The law FnExactCodeNear returns true at every input and leaves all that was there as it was. No condition. -/
import Derived.Test.YtompdebingllmaaBase
import Derived.Test.YtompdebingllmaaNear3
namespace Go.Proofs.Ytompdebingllmaa.fnExactCodeNear
open Go.ChangeShapes Go.WideShapes Go.ChangeAt Go.RowKit
open Go.ChangeMaps (open_string shut_string)
set_option linter.unusedVariables false

open Gol in
set_option maxHeartbeats 1000000 in
theorem walk (a0 : Int) (w : World) (w0 : (Lit.int .i64 a0).wf = true) :
    Calls Try.prog 4 #[.int .i64 a0] w fun e w' => e = .returned (.bool true) ∧ Below w.heap.size w w' := by
  obtain ⟨zs, ok, HS, HI, HL⟩ := near_ex a0
  go_enter Try.func4, Try.ntmps4
  go_wp2_with fail
  refine (HS.out _).mono ?_
  rintro e w1 ⟨a1, c1, rfl, ho1, hb1⟩
  go_wp2_with fail
  refine (HI.out _).mono ?_
  rintro e w2 ⟨a2, c2, rfl, ho2, hb2⟩
  have k1 := ho1.kept hb2
  go_wp2_with fail
  refine (eqSame _ _ _ _ ho2.rd k1.rd HL.out).mono ?_
  rintro e w3 ⟨rfl, hb3⟩
  have k2 := ho2.kept hb3
  have k3 := k1.kept hb3
  go_wp2_with fail
  refine (markI _ _ _ _ _ k2 HL.out (by omega) (by omega)).mono ?_
  rintro e w4 ⟨rfl, ho4, hg4⟩
  have k5 := k3.other hg4 (Owns.apart ho2 (fun k hk => ho1.lt k hk))
  go_wp2_with fail
  refine (heldI _ _ _ _ ho4.rd HL.out (by omega) (by omega)).mono ?_
  rintro e w5 ⟨rfl, rfl⟩
  go_wp2_with fail
  refine (HI.out _).mono ?_
  rintro e w6 ⟨a6, c6, rfl, ho6, hb6⟩
  have k6 := k5.kept hb6
  have k7 := ho4.kept hb6
  go_wp2_with fail
  refine (eqSame _ _ _ _ ho6.rd k6.rd HL.out).mono ?_
  rintro e w7 ⟨rfl, hb7⟩
  have k8 := k7.kept hb7
  go_wp2_with fail
  refine (heldI _ _ _ _ k8.rd HL.out (by omega) (by omega)).mono ?_
  rintro e w8 ⟨rfl, rfl⟩
  go_wp2
  go_ret
  refine ⟨rfl, ?_⟩
  have q2 := hb1.trans (hb2.mono hb1.size)
  have q3 := q2.trans (hb3.mono q2.size)
  have q4 := Below.marked q3 k2 hb1.size q3.size hg4
  have q6 := q4.trans (hb6.mono q4.size)
  exact q6.trans (hb7.mono q6.size)

set_option maxRecDepth 100000 in
theorem lifted (os : Os) (started : os.Started) (H : Type) (enc : TypeId × Value → H) :
    ReturnsInHanded {} Try.checked os 4 .any (Rows.fnExactCodeNearSpec.pre6 enc Try.prog Try.f4 Rows.fnExactCodeNearRow.domain false) (Rows.fnExactCodeNearSpec.post enc Try.prog Try.f4 false true false false) := by
  refine returnsInHanded_of_change (C := Try.checked) own started (by kernel_rfl) Try.func4
    (ChangeSpec.witness6 (enc := enc) (C := Try.checked) false ⟨#[], #[.int .i64 0], []⟩ 8 (by kernel_rfl) (by kernel_rfl) (by kernel_rfl) (by kernel_rfl)) ?_
  intro W base args ds gs before hval0 hW hcnd _
  have hval : ∀ (j : Nat) t v, Try.f4.params[j]? = some t → args[j]? = some v → Value.okWide Try.prog W .any base t v := hval0
  have hW' := hW
  obtain ⟨p, q, hA0, hV, rfl, hfz, hnd⟩ := hW
  have hA : DataW.TrodAll enc Try.prog W 0 (fun _ => true) true Try.f4.params.toList args.toList ds p := hA0
  rw [Try.params4] at hA hval
  obtain ⟨v0, vs0, d0, ds0, p0, q0, hargs, rfl, rfl, h0, r0⟩ := trodAll_cons hA
  obtain ⟨rfl, rfl, rfl⟩ := trodAll_nil r0
  obtain rfl : args = #[v0] := by cases args; simp_all
  obtain ⟨rfl, rfl⟩ := trodVars_none hV
  obtain ⟨a0, rfl, rfl, rfl, w0⟩ := open_int Try.underlying3 (hval 0 3 v0 rfl rfl) h0
  clear hA0 hval0
  refine (walk a0 W w0).mono fun e W' ⟨he, bel⟩ => ?_
  subst he
  exact ⟨_, rfl, _, _, _, [], _, [], hW', trodAll_mk1 (shut_bool Try.underlying4 _), (trodAll_cons_mk (shut_int Try.underlying3 w0) trodAll_mk0), rfl, bel.frame _, fun h => by cases h⟩

theorem closed : joinedFacts Try.prog 4 Try.f4 Rows.fnExactCodeNearSpec Rows.fnExactCodeNearRow = true := by
  delta joinedFacts
  repeat' (first | (with_reducible exact mayEnter) | (with_reducible refine liftedF _ ?_) | (with_reducible refine madeC _ ?_) | (with_reducible refine Bool.and_eq_true_iff.2 ⟨?_, ?_⟩))
  all_goals kernel_rfl

theorem over : Rows.fnExactCodeNearRow.holds Try.pinned (OpenSpec.ofChange Rows.fnExactCodeNearSpec) :=
  OpenClaim.holds_of_wide 4 Try.f4 rfl rfl rfl rfl rfl rfl rfl ⟨rfl, rfl, rfl, rfl, rfl⟩ rfl rfl rfl rfl rfl (by kernel_rfl) Try.func4 closed
    (of_decide_eq_true (by kernel_rfl)) (by unfold Func.isWrapper; first | (rw [if_pos (by decide +kernel)]; kernel_rfl) | (rw [if_neg (by decide +kernel)]; exact ⟨rfl, rfl⟩))
    (fun os started H enc _ => lifted os started H enc)

/-- THE STATEMENT -/
theorem proved : Rows.FnExactCodeNearSaid := over
#print axioms proved
end Go.Proofs.Ytompdebingllmaa.fnExactCodeNear
