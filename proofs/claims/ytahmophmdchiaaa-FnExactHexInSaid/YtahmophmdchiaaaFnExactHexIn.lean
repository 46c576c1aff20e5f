/- The law FnExactHexIn returns true at every input and leaves all that was there as it was. No condition. -/
import Derived.Test.YtahmophmdchiaaaBase
import Derived.Test.YtahmophmdchiaaaHexIn
import Derived.Test.YtahmophmdchiaaaSlices
namespace Go.Proofs.Ytahmophmdchiaaa.fnExactHexIn
open Go.ChangeShapes Go.WideShapes Go.ChangeAt Go.RowKit
open Go.ChangeMaps (open_string shut_string)
set_option linter.unusedVariables false

open Gol in
set_option maxHeartbeats 2000000 in
theorem walk (a0 : Option Addr) (len0 cap0 : Nat) (z0 : List Int) (w : World) (w0 : IsRow .i64 w a0 len0 cap0 z0) :
    Calls Try.prog 12 #[.slice a0 len0 cap0] w fun e w' => e = .returned (.bool true) ∧ Below w.heap.size w w' := by
  by_cases hbig0 : len0 ≤ 1048576
  · -- not too long
    obtain ⟨z0, hlen0, r0⟩ := w0.rd
    have HL0 : Hid (z0.length ≤ 1048576) := (by rw [hlen0]; exact hbig0 : z0.length ≤ 1048576)
    have hnot0 : ¬ (1048576 : Int) < (len0 : Int) := by omega
    clear w0 hbig0 hlen0
    obtain ⟨R, HS, HI⟩ : ∃ R : Bool, Hid (∀ (v0 : Value) W, Rd W v0 z0 → Calls Try.prog 41 #[v0] W (fun e W' => e = .returned (.bool R) ∧ Below W.heap.size W W')) ∧ Hid (∀ (v0 : Value) W, Rd W v0 z0 → Calls Try.prog 42 #[v0] W (fun e W' => e = .returned (.bool R) ∧ Below W.heap.size W W')) := ⟨hexB z0, Lib.hid (fun va W ha => specHexIn_any va z0 W ha HL0.out), Lib.hid (fun va W ha => implHexIn_any va z0 W ha HL0.out)⟩
    go_enter Try.func12, Try.ntmps12
    go_wp2_with fail
    refine (toInt_any _ z0 _ r0 HL0.out).mono ?_
    rintro e w1 ⟨ao1, co1, rfl, o1, b2⟩
    have q3 := b2
    go_wp2_with fail
    refine (HS.out _ _ o1.rd).mono ?_
    rintro e w2 ⟨rfl, b4⟩
    have q6 := q3.trans (b4.mono q3.size)
    go_wp2_with fail
    refine (toInt_any _ z0 _ (r0.kept q6) HL0.out).mono ?_
    rintro e w3 ⟨ao7, co7, rfl, o7, b8⟩
    have q9 := q6.trans (b8.mono q6.size)
    go_wp2_with fail
    refine (HI.out _ _ o7.rd).mono ?_
    rintro e w4 ⟨rfl, b10⟩
    have k11 := o7.kept b10
    have q12 := q9.trans (b10.mono q9.size)
    go_wp2_with fail
    refine (toInt_any _ z0 _ (r0.kept q12) HL0.out).mono ?_
    rintro e w5 ⟨ao13, co13, rfl, o13, b14⟩
    have k16 := k11.kept b14
    have q17 := q12.trans (b14.mono q12.size)
    go_wp2_with fail
    refine (eqSame _ _ _ _ k16.rd o13.rd (by have := HL0.out; omega)).mono ?_
    rintro e w6 ⟨rfl, b18⟩
    have q21 := q17.trans (b18.mono q17.size)
    go_wp2
    go_ret
    exact ⟨rfl, q21⟩
  · have hbig0' : (1048576 : Int) < (len0 : Int) := by omega
    go_enter Try.func12, Try.ntmps12
    go_wp2
    go_ret
    exact ⟨rfl, Below.refl _ _⟩

set_option maxRecDepth 100000 in
theorem lifted (os : Os) (started : os.Started) (H : Type) (enc : TypeId × Value → H) :
    ReturnsInHanded {} Try.checked os 12 .any (Rows.fnExactHexInSpec.pre6 enc Try.prog Try.f12 Rows.fnExactHexInRow.domain false) (Rows.fnExactHexInSpec.post enc Try.prog Try.f12 false true false false) := by
  refine returnsInHanded_of_change (C := Try.checked) own started (by kernel_rfl) Try.func12
    (ChangeSpec.witness6 (enc := enc) (C := Try.checked) false ⟨#[], #[.slice none 0 0], []⟩ 8 (by kernel_rfl) (by kernel_rfl) (by kernel_rfl) (by kernel_rfl)) ?_
  intro W base args ds gs before hval0 hW hcnd _
  have hval : ∀ (j : Nat) t v, Try.f12.params[j]? = some t → args[j]? = some v → Value.okWide Try.prog W .any base t v := hval0
  have hW' := hW
  obtain ⟨p, q, hA0, hV, rfl, hfz, hnd⟩ := hW
  have hA : DataW.TrodAll enc Try.prog W 0 (fun _ => true) true Try.f12.params.toList args.toList ds p := hA0
  rw [Try.params12] at hA hval
  obtain ⟨v0, vs0, d0, ds0, p0, q0, hargs, rfl, rfl, h0, r0⟩ := trodAll_cons hA
  obtain ⟨rfl, rfl, rfl⟩ := trodAll_nil r0
  obtain rfl : args = #[v0] := by cases args; simp_all
  obtain ⟨rfl, rfl⟩ := trodVars_none hV
  obtain ⟨a0, len0, cap0, rfl⟩ := okWide_slice Try.underlying28 (hval 0 28 v0 rfl rfl)
  have k0 := h0
  have lt0 : ∀ x ∈ p0, x.block < W.heap.size := by obtain ⟨m, hm⟩ := k0; exact DataW.trod_lt m _ _ _ hm
  obtain ⟨z0, w0⟩ : ∃ zs, IsRow .i64 W a0 len0 cap0 zs := by
    obtain ⟨fuel, hf⟩ := h0
    rcases open_ints Try.underlying28 Try.underlying3 (by kernel_rfl) hf with ⟨hcs, _⟩ | ⟨x, l, c, zs, hcs, _, hl, hm, hz, _, hcell, hwz⟩
    · simp [Value.cells] at hcs
      obtain ⟨rfl, rfl, rfl⟩ := hcs
      exact ⟨[], .inl ⟨rfl, rfl, rfl, rfl⟩⟩
    · simp [Value.cells] at hcs
      obtain ⟨rfl, rfl, rfl⟩ := hcs
      exact ⟨zs, .inr ⟨_, rfl, hl, hm, by simpa using hz, hcell, hwz⟩⟩
  clear hA0 hval0
  refine (walk a0 len0 cap0 z0 W w0).mono fun e W' ⟨he, bel⟩ => ?_
  subst he
  exact ⟨_, rfl, _, _, _, [], _, [], hW', trodAll_mk1 (shut_bool Try.underlying4 _), (trodAll_cons_mk (Below.trod laidOut (by kernel_rfl) (of_decide_eq_true (by kernel_rfl)) k0 bel lt0) trodAll_mk0), rfl, bel.frame _, fun h => by cases h⟩

theorem closed : joinedFacts Try.prog 12 Try.f12 Rows.fnExactHexInSpec Rows.fnExactHexInRow = true := by
  delta joinedFacts
  repeat' (first | (with_reducible exact mayEnter) | (with_reducible refine liftedF _ ?_) | (with_reducible refine madeC _ ?_) | (with_reducible refine Bool.and_eq_true_iff.2 ⟨?_, ?_⟩))
  all_goals kernel_rfl

theorem over : Rows.fnExactHexInRow.holds Try.pinned (OpenSpec.ofChange Rows.fnExactHexInSpec) :=
  OpenClaim.holds_of_wide 12 Try.f12 rfl rfl rfl rfl rfl rfl rfl ⟨rfl, rfl, rfl, rfl, rfl⟩ rfl rfl rfl rfl rfl (by kernel_rfl) Try.func12 closed
    (of_decide_eq_true (by kernel_rfl)) (by unfold Func.isWrapper; first | (rw [if_pos (by decide +kernel)]; kernel_rfl) | (rw [if_neg (by decide +kernel)]; exact ⟨rfl, rfl⟩))
    (fun os started H enc _ => lifted os started H enc)

/-- THE STATEMENT -/
theorem proved : Rows.FnExactHexInSaid := over
#print axioms proved
end Go.Proofs.Ytahmophmdchiaaa.fnExactHexIn
