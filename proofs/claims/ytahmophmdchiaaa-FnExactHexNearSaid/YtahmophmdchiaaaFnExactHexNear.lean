/- The law FnExactHexNear returns true at every input and leaves all that was there as it was. No condition. -/
import Derived.Test.YtahmophmdchiaaaBase
import Derived.Test.YtahmophmdchiaaaHexNear
import Derived.Test.YtahmophmdchiaaaSlices
namespace Go.Proofs.Ytahmophmdchiaaa.fnExactHexNear
open Go.ChangeShapes Go.WideShapes Go.ChangeAt Go.RowKit
open Go.ChangeMaps (open_string shut_string)
set_option linter.unusedVariables false

open Gol in
set_option maxHeartbeats 2000000 in
theorem walk (a0 : Option Addr) (len0 cap0 : Nat) (z0 : List Int) (w : World) (w0 : IsRow .i64 w a0 len0 cap0 z0) :
    Calls Try.prog 16 #[.slice a0 len0 cap0] w fun e w' => e = .returned (.bool true) ∧ Below w.heap.size w w' := by
  by_cases hbig0 : len0 ≤ 1048576
  · -- not too long
    obtain ⟨z0, hlen0, r0⟩ := w0.rd
    have HL0 : Hid (z0.length ≤ 1048576) := (by rw [hlen0]; exact hbig0 : z0.length ≤ 1048576)
    have hnot0 : ¬ (1048576 : Int) < (len0 : Int) := by omega
    clear w0 hbig0 hlen0
    obtain ⟨zs, t, ok, HS, HI, HZ⟩ : ∃ zs : List Int, ∃ t : Int, ∃ ok : Bool, Hid (∀ (v0 : Value) W, Rd W v0 z0 → Calls Try.prog 47 #[v0] W (RetOwns3 W.heap.size zs t ok W)) ∧ Hid (∀ (v0 : Value) W, Rd W v0 z0 → Calls Try.prog 48 #[v0] W (RetOwns3 W.heap.size zs t ok W)) ∧ Hid (zs.length ≤ 1000000000000) := ⟨nearZ z0, nearT z0, rowB z0, Lib.hid (fun va W ha => specHexNear_any va z0 W ha HL0.out), Lib.hid (fun va W ha => implHexNear_any va z0 W ha HL0.out), Lib.hid (nearZ_len z0)⟩
    go_enter Try.func16, Try.ntmps16
    go_wp2_with fail
    refine (toInt_any _ z0 _ r0 HL0.out).mono ?_
    rintro e w1 ⟨ao1, co1, rfl, o1, b2⟩
    have q3 := b2
    go_wp2_with fail
    refine (HS.out _ _ o1.rd).mono ?_
    rintro e w2 ⟨ao4, co4, rfl, o4, b5⟩
    have q8 := q3.trans (b5.mono q3.size)
    go_wp2_with fail
    refine (toInt_any _ z0 _ (r0.kept q8) HL0.out).mono ?_
    rintro e w3 ⟨ao9, co9, rfl, o9, b10⟩
    have p11 := Owns.apart o9 (fun k hk => o4.lt k hk)
    have k12 := o4.kept b10
    have q13 := q8.trans (b10.mono q8.size)
    go_wp2_with fail
    refine (HI.out _ _ o9.rd).mono ?_
    rintro e w4 ⟨ao14, co14, rfl, o14, b15⟩
    have p16 := Owns.apart o14 (fun k hk => k12.lt k hk)
    have p17 := Owns.apart o14 (fun k hk => o9.lt k hk)
    have k18 := k12.kept b15
    have k19 := o9.kept b15
    have q20 := q13.trans (b15.mono q13.size)
    go_wp2_with fail
    refine (eqSame _ _ _ _ o14.rd k18.rd HZ.out).mono ?_
    rintro e w5 ⟨rfl, b21⟩
    have k22 := k18.kept b21
    have k23 := k19.kept b21
    have k24 := o14.kept b21
    have q25 := q20.trans (b21.mono q20.size)
    go_wp2_with fail
    refine (toInt_any _ z0 _ (r0.kept q25) HL0.out).mono ?_
    rintro e w6 ⟨ao26, co26, rfl, o26, b27⟩
    have k31 := k22.kept b27
    have k32 := k23.kept b27
    have k33 := k24.kept b27
    have q34 := q25.trans (b27.mono q25.size)
    go_wp2_with fail
    refine (eqSame _ _ _ _ k32.rd o26.rd (by have := HL0.out; omega)).mono ?_
    rintro e w7 ⟨rfl, b35⟩
    have k36 := k31.kept b35
    have k37 := k32.kept b35
    have k38 := k33.kept b35
    have q40 := q34.trans (b35.mono q34.size)
    go_wp2_with fail
    refine (markI _ _ _ _ _ k37 (by have := HL0.out; omega) (by omega) (by omega)).mono ?_
    rintro e w8 ⟨rfl, o41, g42⟩
    have k43 := k36.other g42 p11
    have k44 := k38.other g42 (fun k hk e => p17 k e hk)
    have q45 := Below.marked q40 k37 q8.size q40.size g42
    go_wp2_with fail
    refine (eqSame _ _ _ _ k44.rd k43.rd HZ.out).mono ?_
    rintro e w9 ⟨rfl, b46⟩
    have k47 := k43.kept b46
    have k48 := k44.kept b46
    have q49 := q45.trans (b46.mono q45.size)
    go_wp2_with fail
    refine (markI _ _ _ _ _ k48 HZ.out (by omega) (by omega)).mono ?_
    rintro e w10 ⟨rfl, o50, g51⟩
    have k52 := k47.other g51 p16
    have q53 := Below.marked q49 k48 q13.size q49.size g51
    go_wp2_with fail
    refine (heldI _ _ _ _ o50.rd HZ.out (by omega) (by omega)).mono ?_
    rintro e w11 ⟨rfl, rfl⟩
    go_wp2_with fail
    refine (toInt_any _ z0 _ (r0.kept q53) HL0.out).mono ?_
    rintro e w12 ⟨ao54, co54, rfl, o54, b55⟩
    have k58 := k52.kept b55
    have k59 := o50.kept b55
    have q60 := q53.trans (b55.mono q53.size)
    go_wp2_with fail
    refine (HI.out _ _ o54.rd).mono ?_
    rintro e w13 ⟨ao61, co61, rfl, o61, b62⟩
    have k66 := k58.kept b62
    have k67 := k59.kept b62
    have q69 := q60.trans (b62.mono q60.size)
    go_wp2_with fail
    refine (eqSame _ _ _ _ o61.rd k66.rd HZ.out).mono ?_
    rintro e w14 ⟨rfl, b70⟩
    have k72 := k67.kept b70
    have q74 := q69.trans (b70.mono q69.size)
    go_wp2_with fail
    refine (heldI _ _ _ _ k72.rd HZ.out (by omega) (by omega)).mono ?_
    rintro e w15 ⟨rfl, rfl⟩
    go_wp2
    go_ret
    exact ⟨rfl, q74⟩
  · have hbig0' : (1048576 : Int) < (len0 : Int) := by omega
    go_enter Try.func16, Try.ntmps16
    go_wp2
    go_ret
    exact ⟨rfl, Below.refl _ _⟩

set_option maxRecDepth 100000 in
theorem lifted (os : Os) (started : os.Started) (H : Type) (enc : TypeId × Value → H) :
    ReturnsInHanded {} Try.checked os 16 .any (Rows.fnExactHexNearSpec.pre6 enc Try.prog Try.f16 Rows.fnExactHexNearRow.domain false) (Rows.fnExactHexNearSpec.post enc Try.prog Try.f16 false true false false) := by
  refine returnsInHanded_of_change (C := Try.checked) own started (by kernel_rfl) Try.func16
    (ChangeSpec.witness6 (enc := enc) (C := Try.checked) false ⟨#[], #[.slice none 0 0], []⟩ 8 (by kernel_rfl) (by kernel_rfl) (by kernel_rfl) (by kernel_rfl)) ?_
  intro W base args ds gs before hval0 hW hcnd _
  have hval : ∀ (j : Nat) t v, Try.f16.params[j]? = some t → args[j]? = some v → Value.okWide Try.prog W .any base t v := hval0
  have hW' := hW
  obtain ⟨p, q, hA0, hV, rfl, hfz, hnd⟩ := hW
  have hA : DataW.TrodAll enc Try.prog W 0 (fun _ => true) true Try.f16.params.toList args.toList ds p := hA0
  rw [Try.params16] at hA hval
  obtain ⟨v0, vs0, d0, ds0, p0, q0, hargs, rfl, rfl, h0, r0⟩ := trodAll_cons hA
  obtain ⟨rfl, rfl, rfl⟩ := trodAll_nil r0
  obtain rfl : args = #[v0] := by cases args; simp_all
  obtain ⟨rfl, rfl⟩ := trodVars_none hV
  obtain ⟨a0, len0, cap0, rfl⟩ := okWide_slice Try.underlying28 (hval 0 28 v0 rfl rfl)
  have k0 := h0
  have lt0 : ∀ x ∈ p0, x.block < W.heap.size := by obtain ⟨m, hm⟩ := k0; exact DataW.trod_lt m _ _ _ hm
  obtain ⟨z0, w0⟩ : ∃ zs, IsRow .i64 W a0 len0 cap0 zs := by
    obtain ⟨fuel, hf⟩ := h0
    rcases open_ints Try.underlying28 Try.underlying3 (by kernel_rfl) hf with ⟨hcs, _⟩ | ⟨x, l, c, zs, hcs, _, hl, hm, hz, _, hcell, hwz⟩
    · simp [Value.cells] at hcs
      obtain ⟨rfl, rfl, rfl⟩ := hcs
      exact ⟨[], .inl ⟨rfl, rfl, rfl, rfl⟩⟩
    · simp [Value.cells] at hcs
      obtain ⟨rfl, rfl, rfl⟩ := hcs
      exact ⟨zs, .inr ⟨_, rfl, hl, hm, by simpa using hz, hcell, hwz⟩⟩
  clear hA0 hval0
  refine (walk a0 len0 cap0 z0 W w0).mono fun e W' ⟨he, bel⟩ => ?_
  subst he
  exact ⟨_, rfl, _, _, _, [], _, [], hW', trodAll_mk1 (shut_bool Try.underlying4 _), (trodAll_cons_mk (Below.trod laidOut (by kernel_rfl) (of_decide_eq_true (by kernel_rfl)) k0 bel lt0) trodAll_mk0), rfl, bel.frame _, fun h => by cases h⟩

theorem closed : joinedFacts Try.prog 16 Try.f16 Rows.fnExactHexNearSpec Rows.fnExactHexNearRow = true := by
  delta joinedFacts
  repeat' (first | (with_reducible exact mayEnter) | (with_reducible refine liftedF _ ?_) | (with_reducible refine madeC _ ?_) | (with_reducible refine Bool.and_eq_true_iff.2 ⟨?_, ?_⟩))
  all_goals kernel_rfl

theorem over : Rows.fnExactHexNearRow.holds Try.pinned (OpenSpec.ofChange Rows.fnExactHexNearSpec) :=
  OpenClaim.holds_of_wide 16 Try.f16 rfl rfl rfl rfl rfl rfl rfl ⟨rfl, rfl, rfl, rfl, rfl⟩ rfl rfl rfl rfl rfl (by kernel_rfl) Try.func16 closed
    (of_decide_eq_true (by kernel_rfl)) (by unfold Func.isWrapper; first | (rw [if_pos (by decide +kernel)]; kernel_rfl) | (rw [if_neg (by decide +kernel)]; exact ⟨rfl, rfl⟩))
    (fun os started H enc _ => lifted os started H enc)

/-- THE STATEMENT -/
theorem proved : Rows.FnExactHexNearSaid := over
#print axioms proved
end Go.Proofs.Ytahmophmdchiaaa.fnExactHexNear
