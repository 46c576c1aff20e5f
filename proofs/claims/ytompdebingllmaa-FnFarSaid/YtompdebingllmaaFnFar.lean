/- The law FnFar returns true at every input and leaves all that was there as it was. No condition. -/
import Derived.Test.YtompdebingllmaaBase
import Derived.Test.YtompdebingllmaaNear3
import Derived.Test.YtompdebingllmaaCodeIn
import Derived.Test.YtompdebingllmaaDrawC
namespace Go.Proofs.Ytompdebingllmaa.fnFar
open Go.ChangeShapes Go.WideShapes Go.ChangeAt Go.RowKit
open Go.ChangeMaps (open_string shut_string)
set_option linter.unusedVariables false

open Gol in
set_option maxHeartbeats 2000000 in
theorem walk (a0 : Option Addr) (len0 cap0 : Nat) (z0 : List Int) (w : World) (w0 : IsRow .u8 w a0 len0 cap0 z0) :
    Calls Try.prog 5 #[.slice a0 len0 cap0] w fun e w' => e = .returned (.bool true) ∧ Below w.heap.size w w' := by
  by_cases hbig : len0 ≤ 1048576
  · have hnot : ¬ (1048576 : Int) < (len0 : Int) := by omega
    have W0 := Lib.hid w0
    clear w0 hbig
    go_enter Try.func5, Try.ntmps5
    go_wp2_with fail
    refine (DrawCodeFar_any _ _ _ _ _ W0.out).mono ?_
    rintro e w1 ⟨x, _, rfl, hb⟩
    clear hnot
    by_cases hv : IsW x
    · obtain ⟨n, rfl, hn⟩ := hv.of
      obtain ⟨f, hf, he, hz, HP, HI⟩ := far_law n hn
      have HW := Lib.hid (fun W => implWeight_nat n hn W)
      have HC := Lib.hid (fun W => implCodeIn_any n W)
      rw [codeB_nat n hn, hz] at HC
      have hp : pc n ≤ 24 := pcN_le 24 n
      have he2 : ((f : Int) + (pc n : Int)) % 2 = 0 := by omega
      clear hv hn hz he
      generalize pc n = k at *
      by_cases f0 : f = 0
      · subst f0
        have he3 : (k : Int) % 2 = 0 := by omega
        have HC : Hid (∀ W, Calls Try.prog 28 #[.int .i64 n] W (CodeIs true W)) := HC
        go_wp2_with fail
        refine (HI.out _).mono ?_
        rintro e w2 ⟨rfl, b1⟩
        have q2 := hb.trans (b1.mono hb.size)
        go_wp2_with fail
        refine (HP.out _).mono ?_
        rintro e w3 ⟨rfl, b3⟩
        have q4 := q2.trans (b3.mono q2.size)
        go_wp2_with fail
        refine (HC.out _).mono ?_
        rintro e w4 ⟨rfl, b5⟩
        have q6 := q4.trans (b5.mono q4.size)
        go_wp2_with fail
        refine (HW.out _).mono ?_
        rintro e w5 ⟨rfl, rfl⟩
        go_wp2
        go_ret
        exact ⟨rfl, q6⟩
      · have HC : Hid (∀ W, Calls Try.prog 28 #[.int .i64 n] W (CodeIs false W)) := Lib.hid (by have h := HC.out; rwa [show decide (f = 0) = false by simp [f0]] at h)
        have f1 : ((f : Int) == 0) = false := by simp; omega
        go_wp2_with fail
        refine (HI.out _).mono ?_
        rintro e w2 ⟨rfl, b1⟩
        have q2 := hb.trans (b1.mono hb.size)
        go_wp2_with fail
        refine (HP.out _).mono ?_
        rintro e w3 ⟨rfl, b3⟩
        have q4 := q2.trans (b3.mono q2.size)
        go_wp2_with fail
        refine (HC.out _).mono ?_
        rintro e w4 ⟨rfl, b5⟩
        have q6 := q4.trans (b5.mono q4.size)
        go_wp2_with fail
        refine (HW.out _).mono ?_
        rintro e w5 ⟨rfl, rfl⟩
        go_wp2
        go_ret
        exact ⟨rfl, q6⟩
    · have HI := Lib.hid (fun W => implCodeFar_no x hv W)
      have HP := Lib.hid (fun W => specCodeFar_no x hv W)
      clear hv
      go_wp2_with fail
      refine (HI.out _).mono ?_
      rintro e w2 ⟨rfl, b1⟩
      have q2 := hb.trans (b1.mono hb.size)
      go_wp2_with fail
      refine (HP.out _).mono ?_
      rintro e w3 ⟨rfl, b3⟩
      have q4 := q2.trans (b3.mono q2.size)
      go_wp2
      go_ret
      exact ⟨rfl, q4⟩
  · have hnot : (1048576 : Int) < (len0 : Int) := by omega
    go_enter Try.func5, Try.ntmps5
    go_wp2
    go_ret
    exact ⟨rfl, Below.refl _ _⟩

set_option maxRecDepth 100000 in
theorem lifted (os : Os) (started : os.Started) (H : Type) (enc : TypeId × Value → H) :
    ReturnsInHanded {} Try.checked os 5 .any (Rows.fnFarSpec.pre6 enc Try.prog Try.f5 Rows.fnFarRow.domain false) (Rows.fnFarSpec.post enc Try.prog Try.f5 false true false false) := by
  refine returnsInHanded_of_change (C := Try.checked) own started (by kernel_rfl) Try.func5
    (ChangeSpec.witness6 (enc := enc) (C := Try.checked) false ⟨#[], #[.slice none 0 0], []⟩ 8 (by kernel_rfl) (by kernel_rfl) (by kernel_rfl) (by kernel_rfl)) ?_
  intro W base args ds gs before hval0 hW hcnd _
  have hval : ∀ (j : Nat) t v, Try.f5.params[j]? = some t → args[j]? = some v → Value.okWide Try.prog W .any base t v := hval0
  have hW' := hW
  obtain ⟨p, q, hA0, hV, rfl, hfz, hnd⟩ := hW
  have hA : DataW.TrodAll enc Try.prog W 0 (fun _ => true) true Try.f5.params.toList args.toList ds p := hA0
  rw [Try.params5] at hA hval
  obtain ⟨v0, vs0, d0, ds0, p0, q0, hargs, rfl, rfl, h0, r0⟩ := trodAll_cons hA
  obtain ⟨rfl, rfl, rfl⟩ := trodAll_nil r0
  obtain rfl : args = #[v0] := by cases args; simp_all
  obtain ⟨rfl, rfl⟩ := trodVars_none hV
  obtain ⟨a0, len0, cap0, rfl⟩ := okWide_slice Try.underlying30 (hval 0 30 v0 rfl rfl)
  have k0 := h0
  have lt0 : ∀ x ∈ p0, x.block < W.heap.size := by obtain ⟨m, hm⟩ := k0; exact DataW.trod_lt m _ _ _ hm
  obtain ⟨z0, w0⟩ : ∃ zs, IsRow .u8 W a0 len0 cap0 zs := by
    obtain ⟨fuel, hf⟩ := h0
    rcases open_ints Try.underlying30 Try.underlying5 (by kernel_rfl) hf with ⟨hcs, _⟩ | ⟨x, l, c, zs, hcs, _, hl, hm, hz, _, hcell, hwz⟩
    · simp [Value.cells] at hcs
      obtain ⟨rfl, rfl, rfl⟩ := hcs
      exact ⟨[], .inl ⟨rfl, rfl, rfl, rfl⟩⟩
    · simp [Value.cells] at hcs
      obtain ⟨rfl, rfl, rfl⟩ := hcs
      exact ⟨zs, .inr ⟨_, rfl, hl, hm, by simpa using hz, hcell, hwz⟩⟩
  clear hA0 hval0
  refine (walk a0 len0 cap0 z0 W w0).mono fun e W' ⟨he, bel⟩ => ?_
  subst he
  exact ⟨_, rfl, _, _, _, [], _, [], hW', trodAll_mk1 (shut_bool Try.underlying4 _), (trodAll_cons_mk (Below.trod laidOut (by kernel_rfl) (of_decide_eq_true (by kernel_rfl)) k0 bel lt0) trodAll_mk0), rfl, bel.frame _, fun h => by cases h⟩

theorem closed : joinedFacts Try.prog 5 Try.f5 Rows.fnFarSpec Rows.fnFarRow = true := by
  delta joinedFacts
  repeat' (first | (with_reducible exact mayEnter) | (with_reducible refine liftedF _ ?_) | (with_reducible refine madeC _ ?_) | (with_reducible refine Bool.and_eq_true_iff.2 ⟨?_, ?_⟩))
  all_goals kernel_rfl

theorem over : Rows.fnFarRow.holds Try.pinned (OpenSpec.ofChange Rows.fnFarSpec) :=
  OpenClaim.holds_of_wide 5 Try.f5 rfl rfl rfl rfl rfl rfl rfl ⟨rfl, rfl, rfl, rfl, rfl⟩ rfl rfl rfl rfl rfl (by kernel_rfl) Try.func5 closed
    (of_decide_eq_true (by kernel_rfl)) (by unfold Func.isWrapper; first | (rw [if_pos (by decide +kernel)]; kernel_rfl) | (rw [if_neg (by decide +kernel)]; exact ⟨rfl, rfl⟩))
    (fun os started H enc _ => lifted os started H enc)

/-- THE STATEMENT -/
theorem proved : Rows.FnFarSaid := over
#print axioms proved
end Go.Proofs.Ytompdebingllmaa.fnFar
