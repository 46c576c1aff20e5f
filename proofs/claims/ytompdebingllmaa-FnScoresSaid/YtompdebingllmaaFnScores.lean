/- The law FnScores returns true at every input and leaves all that was there as it was. No condition. -/
import Derived.Test.YtompdebingllmaaBase
import Derived.Test.YtompdebingllmaaCodeLaws
import Derived.Test.YtompdebingllmaaSame
namespace Go.Proofs.Ytompdebingllmaa.fnScores
open Go.ChangeShapes Go.WideShapes Go.ChangeAt Go.RowKit
open Go.ChangeMaps (open_string shut_string)
set_option linter.unusedVariables false

open Gol in
set_option maxHeartbeats 2000000 in
theorem walk (a0 : Option Addr) (len0 cap0 : Nat) (z0 : List Int) (w : World) (w0 : IsRow .u8 w a0 len0 cap0 z0) :
    Calls Try.prog 8 #[.slice a0 len0 cap0] w fun e w' => e = .returned (.bool true) ∧ Below w.heap.size w w' := by
  by_cases hbig : len0 ≤ 1048576
  · have hnot : ¬ (1048576 : Int) < (len0 : Int) := by omega
    have W0 := Lib.hid w0
    clear w0 hbig
    go_enter Try.func8, Try.ntmps8
    go_wp2_with fail
    refine (DrawCodeScores_any _ _ _ _ _ W0.out).mono ?_
    rintro e w1 ⟨x, _, rfl, hb⟩
    clear hnot
    by_cases hv : IsW x
    · obtain ⟨n, rfl, hn⟩ := hv.of
      obtain ⟨a, b, S, T, U, hS, hT, hU, H1, H1s, HA, H2, HB, H3, H4, H5⟩ := scores_all n hn
      have HS : Hid (S.length ≤ 1000000000000) := Lib.hid (by rw [hS]; decide)
      have HU : Hid (U.length ≤ 1000000000000) := Lib.hid (by rw [hU]; decide)
      clear hv hn hS hT hU
      go_wp2_with fail
      refine (H1.out _).mono ?_
      rintro e w2 ⟨ao1, co1, rfl, o1, b2⟩
      have q3 := hb.trans (b2.mono hb.size)
      go_wp2_with fail
      refine (H1s.out _).mono ?_
      rintro e w3 ⟨ao4, co4, rfl, o4, b5⟩
      have k6 := o1.kept b5
      have q7 := q3.trans (b5.mono q3.size)
      go_wp2_with fail
      refine (sameInts_any _ _ _ _ _ k6.rd o4.rd HS.out HS.out).mono ?_
      rintro e w4 ⟨rfl, b8⟩
      have k9 := k6.kept b8
      have q11 := q7.trans (b8.mono q7.size)
      rw [eqL_self]
      go_wp2_with fail
      refine (HA.out _).mono ?_
      rintro e w5 ⟨rfl, rfl⟩
      go_wp2_with fail
      refine (H2.out _).mono ?_
      rintro e w6 ⟨ao12, co12, rfl, o12, b13⟩
      have k14 := k9.kept b13
      have q16 := q11.trans (b13.mono q11.size)
      go_wp2_with fail
      refine (HB.out _).mono ?_
      rintro e w7 ⟨rfl, rfl⟩
      go_wp2_with fail
      refine (H3.out _).mono ?_
      rintro e w8 ⟨ao17, co17, rfl, o17, b18⟩
      have k19 := k14.kept b18
      have k21 := o12.kept b18
      have q22 := q16.trans (b18.mono q16.size)
      go_wp2_with fail
      refine (H4.out _).mono ?_
      rintro e w9 ⟨ao23, co23, rfl, o23, b24⟩
      have k25 := k19.kept b24
      have k27 := k21.kept b24
      have k28 := o17.kept b24
      have q29 := q22.trans (b24.mono q22.size)
      go_wp2_with fail
      refine (H5.out _ _ _ k25.rd o23.rd).mono ?_
      rintro e w10 ⟨ao30, co30, rfl, o30, b31⟩
      have k32 := k25.kept b31
      have k34 := k27.kept b31
      have k35 := k28.kept b31
      have q37 := q29.trans (b31.mono q29.size)
      go_wp2_with fail
      refine (sameInts_any _ _ _ _ _ k34.rd k32.rd HS.out HS.out).mono ?_
      rintro e w11 ⟨rfl, b38⟩
      have k42 := k35.kept b38
      have k44 := o30.kept b38
      have q45 := q37.trans (b38.mono q37.size)
      rw [eqL_self]
      go_wp2_with fail
      refine (sameInts_any _ _ _ _ _ k42.rd k44.rd HU.out HU.out).mono ?_
      rintro e w12 ⟨rfl, b46⟩
      have q53 := q45.trans (b46.mono q45.size)
      rw [eqL_self]
      go_wp2
      go_ret
      exact ⟨rfl, q53⟩
    · have HI := Lib.hid (fun W => implScores_any x W)
      have HP := Lib.hid (fun W => specScores_any x W)
      have hz : scoreZ x = [] := by simp [scoreZ, isW_no hv]
      rw [hz, isW_no hv] at HI HP
      clear hv hz
      go_wp2_with fail
      refine (HI.out _).mono ?_
      rintro e w2 ⟨ao1, co1, rfl, o1, b2⟩
      have q3 := hb.trans (b2.mono hb.size)
      go_wp2_with fail
      refine (HP.out _).mono ?_
      rintro e w3 ⟨ao4, co4, rfl, o4, b5⟩
      have k6 := o1.kept b5
      have q7 := q3.trans (b5.mono q3.size)
      go_wp2_with fail
      refine (sameInts_any _ _ _ _ _ k6.rd o4.rd (by simp) (by simp)).mono ?_
      rintro e w4 ⟨rfl, b8⟩
      have k9 := k6.kept b8
      have k10 := o4.kept b8
      have q11 := q7.trans (b8.mono q7.size)
      rw [eqL_self]
      go_wp2_with fail
      refine (sameInts_any _ _ _ _ _ k9.rd k10.rd (by simp) (by simp)).mono ?_
      rintro e w5 ⟨rfl, b12⟩
      have q15 := q11.trans (b12.mono q11.size)
      rw [eqL_self]
      go_wp2
      go_ret
      exact ⟨rfl, q15⟩
  · have hnot : (1048576 : Int) < (len0 : Int) := by omega
    go_enter Try.func8, Try.ntmps8
    go_wp2
    go_ret
    exact ⟨rfl, Below.refl _ _⟩

set_option maxRecDepth 100000 in
theorem lifted (os : Os) (started : os.Started) (H : Type) (enc : TypeId × Value → H) :
    ReturnsInHanded {} Try.checked os 8 .any (Rows.fnScoresSpec.pre6 enc Try.prog Try.f8 Rows.fnScoresRow.domain false) (Rows.fnScoresSpec.post enc Try.prog Try.f8 false true false false) := by
  refine returnsInHanded_of_change (C := Try.checked) own started (by kernel_rfl) Try.func8
    (ChangeSpec.witness6 (enc := enc) (C := Try.checked) false ⟨#[], #[.slice none 0 0], []⟩ 8 (by kernel_rfl) (by kernel_rfl) (by kernel_rfl) (by kernel_rfl)) ?_
  intro W base args ds gs before hval0 hW hcnd _
  have hval : ∀ (j : Nat) t v, Try.f8.params[j]? = some t → args[j]? = some v → Value.okWide Try.prog W .any base t v := hval0
  have hW' := hW
  obtain ⟨p, q, hA0, hV, rfl, hfz, hnd⟩ := hW
  have hA : DataW.TrodAll enc Try.prog W 0 (fun _ => true) true Try.f8.params.toList args.toList ds p := hA0
  rw [Try.params8] at hA hval
  obtain ⟨v0, vs0, d0, ds0, p0, q0, hargs, rfl, rfl, h0, r0⟩ := trodAll_cons hA
  obtain ⟨rfl, rfl, rfl⟩ := trodAll_nil r0
  obtain rfl : args = #[v0] := by cases args; simp_all
  obtain ⟨rfl, rfl⟩ := trodVars_none hV
  obtain ⟨a0, len0, cap0, rfl⟩ := okWide_slice Try.underlying30 (hval 0 30 v0 rfl rfl)
  have k0 := h0
  have lt0 : ∀ x ∈ p0, x.block < W.heap.size := by obtain ⟨m, hm⟩ := k0; exact DataW.trod_lt m _ _ _ hm
  obtain ⟨z0, w0⟩ : ∃ zs, IsRow .u8 W a0 len0 cap0 zs := by
    obtain ⟨fuel, hf⟩ := h0
    rcases open_ints Try.underlying30 Try.underlying5 (by kernel_rfl) hf with ⟨hcs, _⟩ | ⟨x, l, c, zs, hcs, _, hl, hm, hz, _, hcell, hwz⟩
    · simp [Value.cells] at hcs
      obtain ⟨rfl, rfl, rfl⟩ := hcs
      exact ⟨[], .inl ⟨rfl, rfl, rfl, rfl⟩⟩
    · simp [Value.cells] at hcs
      obtain ⟨rfl, rfl, rfl⟩ := hcs
      exact ⟨zs, .inr ⟨_, rfl, hl, hm, by simpa using hz, hcell, hwz⟩⟩
  clear hA0 hval0
  refine (walk a0 len0 cap0 z0 W w0).mono fun e W' ⟨he, bel⟩ => ?_
  subst he
  exact ⟨_, rfl, _, _, _, [], _, [], hW', trodAll_mk1 (shut_bool Try.underlying4 _), (trodAll_cons_mk (Below.trod laidOut (by kernel_rfl) (of_decide_eq_true (by kernel_rfl)) k0 bel lt0) trodAll_mk0), rfl, bel.frame _, fun h => by cases h⟩

theorem closed : joinedFacts Try.prog 8 Try.f8 Rows.fnScoresSpec Rows.fnScoresRow = true := by
  delta joinedFacts
  repeat' (first | (with_reducible exact mayEnter) | (with_reducible refine liftedF _ ?_) | (with_reducible refine madeC _ ?_) | (with_reducible refine Bool.and_eq_true_iff.2 ⟨?_, ?_⟩))
  all_goals kernel_rfl

theorem over : Rows.fnScoresRow.holds Try.pinned (OpenSpec.ofChange Rows.fnScoresSpec) :=
  OpenClaim.holds_of_wide 8 Try.f8 rfl rfl rfl rfl rfl rfl rfl ⟨rfl, rfl, rfl, rfl, rfl⟩ rfl rfl rfl rfl rfl (by kernel_rfl) Try.func8 closed
    (of_decide_eq_true (by kernel_rfl)) (by unfold Func.isWrapper; first | (rw [if_pos (by decide +kernel)]; kernel_rfl) | (rw [if_neg (by decide +kernel)]; exact ⟨rfl, rfl⟩))
    (fun os started H enc _ => lifted os started H enc)

/-- THE STATEMENT -/
theorem proved : Rows.FnScoresSaid := over
#print axioms proved
end Go.Proofs.Ytompdebingllmaa.fnScores
