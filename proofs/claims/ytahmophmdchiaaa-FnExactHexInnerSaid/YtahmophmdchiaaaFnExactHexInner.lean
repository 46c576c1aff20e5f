/- The law FnExactHexInner returns true at every input and leaves all that was there as it was. No condition. -/
import Derived.Test.YtahmophmdchiaaaBase
import Derived.Test.YtahmophmdchiaaaHexInner
import Derived.Test.YtahmophmdchiaaaSlices
namespace Go.Proofs.Ytahmophmdchiaaa.fnExactHexInner
open Go.ChangeShapes Go.WideShapes Go.ChangeAt Go.RowKit
open Go.ChangeMaps (open_string shut_string)
set_option linter.unusedVariables false

open Gol in
set_option maxHeartbeats 2000000 in
theorem walk (a0 : Option Addr) (len0 cap0 : Nat) (z0 : List Int) (a1 : Option Addr) (len1 cap1 : Nat) (z1 : List Int) (w : World) (w0 : IsRow .i64 w a0 len0 cap0 z0) (w1 : IsRow .i64 w a1 len1 cap1 z1) :
    Calls Try.prog 9 #[.slice a0 len0 cap0, .slice a1 len1 cap1] w fun e w' => e = .returned (.bool true) ∧ Below w.heap.size w w' := by
  by_cases hbig0 : len0 ≤ 1048576
  · -- not too long
    by_cases hbig1 : len1 ≤ 1048576
    · -- not too long
      obtain ⟨z0, hlen0, r0⟩ := w0.rd
      have HL0 : Hid (z0.length ≤ 1048576) := (by rw [hlen0]; exact hbig0 : z0.length ≤ 1048576)
      have hnot0 : ¬ (1048576 : Int) < (len0 : Int) := by omega
      obtain ⟨z1, hlen1, r1⟩ := w1.rd
      have HL1 : Hid (z1.length ≤ 1048576) := (by rw [hlen1]; exact hbig1 : z1.length ≤ 1048576)
      have hnot1 : ¬ (1048576 : Int) < (len1 : Int) := by omega
      clear w0 hbig0 hlen0 w1 hbig1 hlen1
      obtain ⟨R, HS, HI⟩ : ∃ R : Int, Hid (∀ (v0 v1 : Value) W, Rd W v0 z0 → Rd W v1 z1 → Calls Try.prog 35 #[v0, v1] W (fun e W' => e = .returned (.int .i64 R) ∧ Below W.heap.size W W')) ∧ Hid (∀ (v0 v1 : Value) W, Rd W v0 z0 → Rd W v1 z1 → Calls Try.prog 36 #[v0, v1] W (fun e W' => e = .returned (.int .i64 R) ∧ Below W.heap.size W W')) := ⟨innerZ z0 z1, Lib.hid (fun va vb W ha hb => specHexInner_any va vb z0 z1 W ha hb HL0.out HL1.out), Lib.hid (fun va vb W ha hb => implHexInner_any va vb z0 z1 W ha hb HL0.out HL1.out)⟩
      go_enter Try.func9, Try.ntmps9
      go_wp2_with fail
      refine (toInt_any _ z0 _ r0 HL0.out).mono ?_
      rintro e w1 ⟨ao1, co1, rfl, o1, b2⟩
      have q3 := b2
      go_wp2_with fail
      refine (toInt_any _ z1 _ (r1.kept q3) HL1.out).mono ?_
      rintro e w2 ⟨ao4, co4, rfl, o4, b5⟩
      have k7 := o1.kept b5
      have q8 := q3.trans (b5.mono q3.size)
      go_wp2_with fail
      refine (HS.out _ _ _ k7.rd o4.rd).mono ?_
      rintro e w3 ⟨rfl, b9⟩
      have q12 := q8.trans (b9.mono q8.size)
      go_wp2_with fail
      refine (toInt_any _ z0 _ (r0.kept q12) HL0.out).mono ?_
      rintro e w4 ⟨ao13, co13, rfl, o13, b14⟩
      have q15 := q12.trans (b14.mono q12.size)
      go_wp2_with fail
      refine (toInt_any _ z1 _ (r1.kept q15) HL1.out).mono ?_
      rintro e w5 ⟨ao16, co16, rfl, o16, b17⟩
      have k19 := o13.kept b17
      have q20 := q15.trans (b17.mono q15.size)
      go_wp2_with fail
      refine (HI.out _ _ _ k19.rd o16.rd).mono ?_
      rintro e w6 ⟨rfl, b21⟩
      have k22 := k19.kept b21
      have k23 := o16.kept b21
      have q24 := q20.trans (b21.mono q20.size)
      go_wp2_with fail
      refine (toInt_any _ z0 _ (r0.kept q24) HL0.out).mono ?_
      rintro e w7 ⟨ao25, co25, rfl, o25, b26⟩
      have k29 := k22.kept b26
      have k30 := k23.kept b26
      have q31 := q24.trans (b26.mono q24.size)
      go_wp2_with fail
      refine (eqSame _ _ _ _ k29.rd o25.rd (by have := HL0.out; omega)).mono ?_
      rintro e w8 ⟨rfl, b32⟩
      have k34 := k30.kept b32
      have q36 := q31.trans (b32.mono q31.size)
      go_wp2_with fail
      refine (toInt_any _ z1 _ (r1.kept q36) HL1.out).mono ?_
      rintro e w9 ⟨ao37, co37, rfl, o37, b38⟩
      have k42 := k34.kept b38
      have q43 := q36.trans (b38.mono q36.size)
      go_wp2_with fail
      refine (eqSame _ _ _ _ k42.rd o37.rd (by have := HL1.out; omega)).mono ?_
      rintro e w10 ⟨rfl, b44⟩
      have q48 := q43.trans (b44.mono q43.size)
      go_wp2
      go_ret
      exact ⟨rfl, q48⟩
    · have hbig1' : (1048576 : Int) < (len1 : Int) := by omega
      have hnot0 : ¬ (1048576 : Int) < (len0 : Int) := by omega
      go_enter Try.func9, Try.ntmps9
      go_wp2
      go_ret
      exact ⟨rfl, Below.refl _ _⟩
  · have hbig0' : (1048576 : Int) < (len0 : Int) := by omega
    go_enter Try.func9, Try.ntmps9
    go_wp2
    go_ret
    exact ⟨rfl, Below.refl _ _⟩

set_option maxRecDepth 100000 in
theorem lifted (os : Os) (started : os.Started) (H : Type) (enc : TypeId × Value → H) :
    ReturnsInHanded {} Try.checked os 9 .any (Rows.fnExactHexInnerSpec.pre6 enc Try.prog Try.f9 Rows.fnExactHexInnerRow.domain false) (Rows.fnExactHexInnerSpec.post enc Try.prog Try.f9 false true false false) := by
  refine returnsInHanded_of_change (C := Try.checked) own started (by kernel_rfl) Try.func9
    (ChangeSpec.witness6 (enc := enc) (C := Try.checked) false ⟨#[], #[.slice none 0 0, .slice none 0 0], []⟩ 8 (by kernel_rfl) (by kernel_rfl) (by kernel_rfl) (by kernel_rfl)) ?_
  intro W base args ds gs before hval0 hW hcnd _
  have hval : ∀ (j : Nat) t v, Try.f9.params[j]? = some t → args[j]? = some v → Value.okWide Try.prog W .any base t v := hval0
  have hW' := hW
  obtain ⟨p, q, hA0, hV, rfl, hfz, hnd⟩ := hW
  have hA : DataW.TrodAll enc Try.prog W 0 (fun _ => true) true Try.f9.params.toList args.toList ds p := hA0
  rw [Try.params9] at hA hval
  obtain ⟨v0, vs0, d0, ds0, p0, q0, hargs, rfl, rfl, h0, r0⟩ := trodAll_cons hA
  obtain ⟨v1, vs1, d1, ds1, p1, q1, rfl, rfl, rfl, h1, r1⟩ := trodAll_cons r0
  obtain ⟨rfl, rfl, rfl⟩ := trodAll_nil r1
  obtain rfl : args = #[v0, v1] := by cases args; simp_all
  obtain ⟨rfl, rfl⟩ := trodVars_none hV
  obtain ⟨a0, len0, cap0, rfl⟩ := okWide_slice Try.underlying28 (hval 0 28 v0 rfl rfl)
  have k0 := h0
  have lt0 : ∀ x ∈ p0, x.block < W.heap.size := by obtain ⟨m, hm⟩ := k0; exact DataW.trod_lt m _ _ _ hm
  obtain ⟨z0, w0⟩ : ∃ zs, IsRow .i64 W a0 len0 cap0 zs := by
    obtain ⟨fuel, hf⟩ := h0
    rcases open_ints Try.underlying28 Try.underlying3 (by kernel_rfl) hf with ⟨hcs, _⟩ | ⟨x, l, c, zs, hcs, _, hl, hm, hz, _, hcell, hwz⟩
    · simp [Value.cells] at hcs
      obtain ⟨rfl, rfl, rfl⟩ := hcs
      exact ⟨[], .inl ⟨rfl, rfl, rfl, rfl⟩⟩
    · simp [Value.cells] at hcs
      obtain ⟨rfl, rfl, rfl⟩ := hcs
      exact ⟨zs, .inr ⟨_, rfl, hl, hm, by simpa using hz, hcell, hwz⟩⟩
  obtain ⟨a1, len1, cap1, rfl⟩ := okWide_slice Try.underlying28 (hval 1 28 v1 rfl rfl)
  have k1 := h1
  have lt1 : ∀ x ∈ p1, x.block < W.heap.size := by obtain ⟨m, hm⟩ := k1; exact DataW.trod_lt m _ _ _ hm
  obtain ⟨z1, w1⟩ : ∃ zs, IsRow .i64 W a1 len1 cap1 zs := by
    obtain ⟨fuel, hf⟩ := h1
    rcases open_ints Try.underlying28 Try.underlying3 (by kernel_rfl) hf with ⟨hcs, _⟩ | ⟨x, l, c, zs, hcs, _, hl, hm, hz, _, hcell, hwz⟩
    · simp [Value.cells] at hcs
      obtain ⟨rfl, rfl, rfl⟩ := hcs
      exact ⟨[], .inl ⟨rfl, rfl, rfl, rfl⟩⟩
    · simp [Value.cells] at hcs
      obtain ⟨rfl, rfl, rfl⟩ := hcs
      exact ⟨zs, .inr ⟨_, rfl, hl, hm, by simpa using hz, hcell, hwz⟩⟩
  clear hA0 hval0
  refine (walk a0 len0 cap0 z0 a1 len1 cap1 z1 W w0 w1).mono fun e W' ⟨he, bel⟩ => ?_
  subst he
  exact ⟨_, rfl, _, _, _, [], _, [], hW', trodAll_mk1 (shut_bool Try.underlying4 _), (trodAll_cons_mk (Below.trod laidOut (by kernel_rfl) (of_decide_eq_true (by kernel_rfl)) k0 bel lt0) (trodAll_cons_mk (Below.trod laidOut (by kernel_rfl) (of_decide_eq_true (by kernel_rfl)) k1 bel lt1) trodAll_mk0)), rfl, bel.frame _, fun h => by cases h⟩

theorem closed : joinedFacts Try.prog 9 Try.f9 Rows.fnExactHexInnerSpec Rows.fnExactHexInnerRow = true := by
  delta joinedFacts
  repeat' (first | (with_reducible exact mayEnter) | (with_reducible refine liftedF _ ?_) | (with_reducible refine madeC _ ?_) | (with_reducible refine Bool.and_eq_true_iff.2 ⟨?_, ?_⟩))
  all_goals kernel_rfl

theorem over : Rows.fnExactHexInnerRow.holds Try.pinned (OpenSpec.ofChange Rows.fnExactHexInnerSpec) :=
  OpenClaim.holds_of_wide 9 Try.f9 rfl rfl rfl rfl rfl rfl rfl ⟨rfl, rfl, rfl, rfl, rfl⟩ rfl rfl rfl rfl rfl (by kernel_rfl) Try.func9 closed
    (of_decide_eq_true (by kernel_rfl)) (by unfold Func.isWrapper; first | (rw [if_pos (by decide +kernel)]; kernel_rfl) | (rw [if_neg (by decide +kernel)]; exact ⟨rfl, rfl⟩))
    (fun os started H enc _ => lifted os started H enc)

/-- THE STATEMENT -/
theorem proved : Rows.FnExactHexInnerSaid := over
#print axioms proved
end Go.Proofs.Ytahmophmdchiaaa.fnExactHexInner
