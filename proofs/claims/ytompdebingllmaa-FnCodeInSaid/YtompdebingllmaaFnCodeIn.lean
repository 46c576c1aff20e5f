/- The law FnCodeIn returns true at every input and leaves all that was there as it was. No condition. -/
import Derived.Test.YtompdebingllmaaBase
import Derived.Test.YtompdebingllmaaCodeLaws
namespace Go.Proofs.Ytompdebingllmaa.fnCodeIn
open Go.ChangeShapes Go.WideShapes Go.ChangeAt Go.RowKit
open Go.ChangeMaps (open_string shut_string)
set_option linter.unusedVariables false

open Gol in
set_option maxHeartbeats 2000000 in
theorem walk (a0 : Option Addr) (len0 cap0 : Nat) (z0 : List Int) (w : World) (w0 : IsRow .u8 w a0 len0 cap0 z0) :
    Calls Try.prog 14 #[.slice a0 len0 cap0] w fun e w' => e = .returned (.bool true) ∧ Below w.heap.size w w' := by
  by_cases hbig : len0 ≤ 1048576
  · have hnot : ¬ (1048576 : Int) < (len0 : Int) := by omega
    have W0 := Lib.hid w0
    clear w0 hbig
    go_enter Try.func14, Try.ntmps14
    go_wp2_with fail
    refine (DrawCodeIn_any _ _ _ _ _ W0.out).mono ?_
    rintro e w1 ⟨x, _, rfl, hb⟩
    clear hnot
    have HI := Lib.hid (fun W => implCodeIn_any x W)
    have HP := Lib.hid (fun W => specCodeIn_any x W)
    by_cases hB : codeB x = true
    · rw [hB] at HI HP
      obtain ⟨hw1, hin⟩ := Bool.and_eq_true_iff.1 hB
      have hw : IsW x := by simpa [isW, IsW] using hw1
      obtain ⟨n, rfl, hn⟩ := hw.of
      obtain ⟨a, k, S, hS, hk, H1, HA, H2, H3, H4⟩ := codeIn_all n hn (by simpa using hin)
      clear hB hw1 hin hw hn hS
      rcases hk with rfl | rfl | rfl | rfl | rfl
      · go_wp2_with fail
        refine (HI.out _).mono ?_
        rintro e w2 ⟨rfl, b1⟩
        have q2 := hb.trans (b1.mono hb.size)
        go_wp2_with fail
        refine (HP.out _).mono ?_
        rintro e w3 ⟨rfl, b3⟩
        have q4 := q2.trans (b3.mono q2.size)
        go_wp2_with fail
        refine (H1.out _).mono ?_
        rintro e w4 ⟨rfl, rfl⟩
        go_wp2_with fail
        refine (HA.out _).mono ?_
        rintro e w5 ⟨rfl, rfl⟩
        go_wp2_with fail
        refine (H2.out _).mono ?_
        rintro e w6 ⟨ao5, co5, rfl, o5, b6⟩
        have q7 := q4.trans (b6.mono q4.size)
        go_wp2_with fail
        refine (H3.out _).mono ?_
        rintro e w7 ⟨rfl, b8⟩
        have k9 := o5.kept b8
        have q10 := q7.trans (b8.mono q7.size)
        go_wp2_with fail
        refine (H4.out _ _ k9.rd).mono ?_
        rintro e w8 ⟨rfl, b11⟩
        have q13 := q10.trans (b11.mono q10.size)
        go_wp2
        go_ret
        exact ⟨rfl, q13⟩
      · go_wp2_with fail
        refine (HI.out _).mono ?_
        rintro e w2 ⟨rfl, b1⟩
        have q2 := hb.trans (b1.mono hb.size)
        go_wp2_with fail
        refine (HP.out _).mono ?_
        rintro e w3 ⟨rfl, b3⟩
        have q4 := q2.trans (b3.mono q2.size)
        go_wp2_with fail
        refine (H1.out _).mono ?_
        rintro e w4 ⟨rfl, rfl⟩
        go_wp2_with fail
        refine (HA.out _).mono ?_
        rintro e w5 ⟨rfl, rfl⟩
        go_wp2_with fail
        refine (H2.out _).mono ?_
        rintro e w6 ⟨ao5, co5, rfl, o5, b6⟩
        have q7 := q4.trans (b6.mono q4.size)
        go_wp2_with fail
        refine (H3.out _).mono ?_
        rintro e w7 ⟨rfl, b8⟩
        have k9 := o5.kept b8
        have q10 := q7.trans (b8.mono q7.size)
        go_wp2_with fail
        refine (H4.out _ _ k9.rd).mono ?_
        rintro e w8 ⟨rfl, b11⟩
        have q13 := q10.trans (b11.mono q10.size)
        go_wp2
        go_ret
        exact ⟨rfl, q13⟩
      · go_wp2_with fail
        refine (HI.out _).mono ?_
        rintro e w2 ⟨rfl, b1⟩
        have q2 := hb.trans (b1.mono hb.size)
        go_wp2_with fail
        refine (HP.out _).mono ?_
        rintro e w3 ⟨rfl, b3⟩
        have q4 := q2.trans (b3.mono q2.size)
        go_wp2_with fail
        refine (H1.out _).mono ?_
        rintro e w4 ⟨rfl, rfl⟩
        go_wp2_with fail
        refine (HA.out _).mono ?_
        rintro e w5 ⟨rfl, rfl⟩
        go_wp2_with fail
        refine (H2.out _).mono ?_
        rintro e w6 ⟨ao5, co5, rfl, o5, b6⟩
        have q7 := q4.trans (b6.mono q4.size)
        go_wp2_with fail
        refine (H3.out _).mono ?_
        rintro e w7 ⟨rfl, b8⟩
        have k9 := o5.kept b8
        have q10 := q7.trans (b8.mono q7.size)
        go_wp2_with fail
        refine (H4.out _ _ k9.rd).mono ?_
        rintro e w8 ⟨rfl, b11⟩
        have q13 := q10.trans (b11.mono q10.size)
        go_wp2
        go_ret
        exact ⟨rfl, q13⟩
      · go_wp2_with fail
        refine (HI.out _).mono ?_
        rintro e w2 ⟨rfl, b1⟩
        have q2 := hb.trans (b1.mono hb.size)
        go_wp2_with fail
        refine (HP.out _).mono ?_
        rintro e w3 ⟨rfl, b3⟩
        have q4 := q2.trans (b3.mono q2.size)
        go_wp2_with fail
        refine (H1.out _).mono ?_
        rintro e w4 ⟨rfl, rfl⟩
        go_wp2_with fail
        refine (HA.out _).mono ?_
        rintro e w5 ⟨rfl, rfl⟩
        go_wp2_with fail
        refine (H2.out _).mono ?_
        rintro e w6 ⟨ao5, co5, rfl, o5, b6⟩
        have q7 := q4.trans (b6.mono q4.size)
        go_wp2_with fail
        refine (H3.out _).mono ?_
        rintro e w7 ⟨rfl, b8⟩
        have k9 := o5.kept b8
        have q10 := q7.trans (b8.mono q7.size)
        go_wp2_with fail
        refine (H4.out _ _ k9.rd).mono ?_
        rintro e w8 ⟨rfl, b11⟩
        have q13 := q10.trans (b11.mono q10.size)
        go_wp2
        go_ret
        exact ⟨rfl, q13⟩
      · go_wp2_with fail
        refine (HI.out _).mono ?_
        rintro e w2 ⟨rfl, b1⟩
        have q2 := hb.trans (b1.mono hb.size)
        go_wp2_with fail
        refine (HP.out _).mono ?_
        rintro e w3 ⟨rfl, b3⟩
        have q4 := q2.trans (b3.mono q2.size)
        go_wp2_with fail
        refine (H1.out _).mono ?_
        rintro e w4 ⟨rfl, rfl⟩
        go_wp2_with fail
        refine (HA.out _).mono ?_
        rintro e w5 ⟨rfl, rfl⟩
        go_wp2_with fail
        refine (H2.out _).mono ?_
        rintro e w6 ⟨ao5, co5, rfl, o5, b6⟩
        have q7 := q4.trans (b6.mono q4.size)
        go_wp2_with fail
        refine (H3.out _).mono ?_
        rintro e w7 ⟨rfl, b8⟩
        have k9 := o5.kept b8
        have q10 := q7.trans (b8.mono q7.size)
        go_wp2_with fail
        refine (H4.out _ _ k9.rd).mono ?_
        rintro e w8 ⟨rfl, b11⟩
        have q13 := q10.trans (b11.mono q10.size)
        go_wp2
        go_ret
        exact ⟨rfl, q13⟩
    · have hB : codeB x = false := by simpa using hB
      rw [hB] at HI HP
      clear hB
      go_wp2_with fail
      refine (HI.out _).mono ?_
      rintro e w2 ⟨rfl, b1⟩
      have q2 := hb.trans (b1.mono hb.size)
      go_wp2_with fail
      refine (HP.out _).mono ?_
      rintro e w3 ⟨rfl, b3⟩
      have q4 := q2.trans (b3.mono q2.size)
      go_wp2
      go_ret
      exact ⟨rfl, q4⟩
  · have hnot : (1048576 : Int) < (len0 : Int) := by omega
    go_enter Try.func14, Try.ntmps14
    go_wp2
    go_ret
    exact ⟨rfl, Below.refl _ _⟩

set_option maxRecDepth 100000 in
theorem lifted (os : Os) (started : os.Started) (H : Type) (enc : TypeId × Value → H) :
    ReturnsInHanded {} Try.checked os 14 .any (Rows.fnCodeInSpec.pre6 enc Try.prog Try.f14 Rows.fnCodeInRow.domain false) (Rows.fnCodeInSpec.post enc Try.prog Try.f14 false true false false) := by
  refine returnsInHanded_of_change (C := Try.checked) own started (by kernel_rfl) Try.func14
    (ChangeSpec.witness6 (enc := enc) (C := Try.checked) false ⟨#[], #[.slice none 0 0], []⟩ 8 (by kernel_rfl) (by kernel_rfl) (by kernel_rfl) (by kernel_rfl)) ?_
  intro W base args ds gs before hval0 hW hcnd _
  have hval : ∀ (j : Nat) t v, Try.f14.params[j]? = some t → args[j]? = some v → Value.okWide Try.prog W .any base t v := hval0
  have hW' := hW
  obtain ⟨p, q, hA0, hV, rfl, hfz, hnd⟩ := hW
  have hA : DataW.TrodAll enc Try.prog W 0 (fun _ => true) true Try.f14.params.toList args.toList ds p := hA0
  rw [Try.params14] at hA hval
  obtain ⟨v0, vs0, d0, ds0, p0, q0, hargs, rfl, rfl, h0, r0⟩ := trodAll_cons hA
  obtain ⟨rfl, rfl, rfl⟩ := trodAll_nil r0
  obtain rfl : args = #[v0] := by cases args; simp_all
  obtain ⟨rfl, rfl⟩ := trodVars_none hV
  obtain ⟨a0, len0, cap0, rfl⟩ := okWide_slice Try.underlying30 (hval 0 30 v0 rfl rfl)
  have k0 := h0
  have lt0 : ∀ x ∈ p0, x.block < W.heap.size := by obtain ⟨m, hm⟩ := k0; exact DataW.trod_lt m _ _ _ hm
  obtain ⟨z0, w0⟩ : ∃ zs, IsRow .u8 W a0 len0 cap0 zs := by
    obtain ⟨fuel, hf⟩ := h0
    rcases open_ints Try.underlying30 Try.underlying5 (by kernel_rfl) hf with ⟨hcs, _⟩ | ⟨x, l, c, zs, hcs, _, hl, hm, hz, _, hcell, hwz⟩
    · simp [Value.cells] at hcs
      obtain ⟨rfl, rfl, rfl⟩ := hcs
      exact ⟨[], .inl ⟨rfl, rfl, rfl, rfl⟩⟩
    · simp [Value.cells] at hcs
      obtain ⟨rfl, rfl, rfl⟩ := hcs
      exact ⟨zs, .inr ⟨_, rfl, hl, hm, by simpa using hz, hcell, hwz⟩⟩
  clear hA0 hval0
  refine (walk a0 len0 cap0 z0 W w0).mono fun e W' ⟨he, bel⟩ => ?_
  subst he
  exact ⟨_, rfl, _, _, _, [], _, [], hW', trodAll_mk1 (shut_bool Try.underlying4 _), (trodAll_cons_mk (Below.trod laidOut (by kernel_rfl) (of_decide_eq_true (by kernel_rfl)) k0 bel lt0) trodAll_mk0), rfl, bel.frame _, fun h => by cases h⟩

theorem closed : joinedFacts Try.prog 14 Try.f14 Rows.fnCodeInSpec Rows.fnCodeInRow = true := by
  delta joinedFacts
  repeat' (first | (with_reducible exact mayEnter) | (with_reducible refine liftedF _ ?_) | (with_reducible refine madeC _ ?_) | (with_reducible refine Bool.and_eq_true_iff.2 ⟨?_, ?_⟩))
  all_goals kernel_rfl

theorem over : Rows.fnCodeInRow.holds Try.pinned (OpenSpec.ofChange Rows.fnCodeInSpec) :=
  OpenClaim.holds_of_wide 14 Try.f14 rfl rfl rfl rfl rfl rfl rfl ⟨rfl, rfl, rfl, rfl, rfl⟩ rfl rfl rfl rfl rfl (by kernel_rfl) Try.func14 closed
    (of_decide_eq_true (by kernel_rfl)) (by unfold Func.isWrapper; first | (rw [if_pos (by decide +kernel)]; kernel_rfl) | (rw [if_neg (by decide +kernel)]; exact ⟨rfl, rfl⟩))
    (fun os started H enc _ => lifted os started H enc)

/-- THE STATEMENT -/
theorem proved : Rows.FnCodeInSaid := over
#print axioms proved
end Go.Proofs.Ytompdebingllmaa.fnCodeIn
