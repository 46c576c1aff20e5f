/- The law FnMended returns true at every input and leaves all that was there as it was. No condition. -/
import Derived.Test.YtompdebingllmaaBase
import Derived.Test.YtompdebingllmaaNear3
import Derived.Test.YtompdebingllmaaCodeLaws
import Derived.Test.YtompdebingllmaaSent
namespace Go.Proofs.Ytompdebingllmaa.fnMended
open Go.ChangeShapes Go.WideShapes Go.ChangeAt Go.RowKit
open Go.ChangeMaps (open_string shut_string)
set_option linter.unusedVariables false

open Gol in
set_option maxHeartbeats 2000000 in
theorem walk (a0 : Option Addr) (len0 cap0 : Nat) (z0 : List Int) (w : World) (w0 : IsRow .u8 w a0 len0 cap0 z0) :
    Calls Try.prog 16 #[.slice a0 len0 cap0] w fun e w' => e = .returned (.bool true) ∧ Below w.heap.size w w' := by
  by_cases hbig : len0 ≤ 1048576
  · have hnot : ¬ (1048576 : Int) < (len0 : Int) := by omega
    have W0 := Lib.hid w0
    clear w0 hbig
    go_enter Try.func16, Try.ntmps16
    go_wp2_with fail
    refine (DrawCodeOf_any _ _ _ _ _ W0.out).mono ?_
    rintro e w1 ⟨x, x0, x1, rfl, hb⟩
    clear hnot
    by_cases hm : x < 4096
    · obtain ⟨n, rfl⟩ := Int.eq_ofNat_of_zero_le x0
      obtain ⟨e, y1, y2, y3, H1, H1s, hx1, hx2, hx3, H2⟩ := sent_law n (by omega)
      have m1 : (n : Int) ≤ 4095 := by omega
      clear x0 x1 hm
      go_wp2_with fail
      refine (H1.out _).mono ?_
      rintro e w2 ⟨rfl, b1⟩
      have q2 := hb.trans (b1.mono hb.size)
      go_wp2_with fail
      refine (H1s.out _).mono ?_
      rintro e w3 ⟨rfl, b3⟩
      have q4 := q2.trans (b3.mono q2.size)
      go_wp2
      go_quiet (fail)
      rw [hx1.out, hx2.out, hx3.out]
      clear hx1 hx2 hx3
      have q9 := below_drewN q4 nq
      go_wp2_with fail
      refine (H2.out _).mono ?_
      rintro e w4 ⟨rfl, b5⟩
      have q6 := q9.trans (b5.mono q9.size)
      go_wp2
      go_ret
      exact ⟨rfl, q6⟩
    · have HI := Lib.hid (fun W => implCodeOf_any x W)
      have HP := Lib.hid (fun W => specCodeOf_any x W)
      have hb0 : msgB x = false := by simp [msgB]; omega
      have hz : encZ x = 0 := by simp [encZ, hb0]
      rw [hz, hb0] at HI HP
      clear hb0 hz x0 x1 hm
      go_wp2_with fail
      refine (HI.out _).mono ?_
      rintro e w2 ⟨rfl, b1⟩
      have q2 := hb.trans (b1.mono hb.size)
      go_wp2_with fail
      refine (HP.out _).mono ?_
      rintro e w3 ⟨rfl, b3⟩
      have q4 := q2.trans (b3.mono q2.size)
      go_wp2
      go_ret
      exact ⟨rfl, q4⟩
  · have hnot : (1048576 : Int) < (len0 : Int) := by omega
    go_enter Try.func16, Try.ntmps16
    go_wp2
    go_ret
    exact ⟨rfl, Below.refl _ _⟩

set_option maxRecDepth 100000 in
theorem lifted (os : Os) (started : os.Started) (H : Type) (enc : TypeId × Value → H) :
    ReturnsInHanded {} Try.checked os 16 .any (Rows.fnMendedSpec.pre6 enc Try.prog Try.f16 Rows.fnMendedRow.domain false) (Rows.fnMendedSpec.post enc Try.prog Try.f16 false true false false) := by
  refine returnsInHanded_of_change (C := Try.checked) own started (by kernel_rfl) Try.func16
    (ChangeSpec.witness6 (enc := enc) (C := Try.checked) false ⟨#[], #[.slice none 0 0], []⟩ 8 (by kernel_rfl) (by kernel_rfl) (by kernel_rfl) (by kernel_rfl)) ?_
  intro W base args ds gs before hval0 hW hcnd _
  have hval : ∀ (j : Nat) t v, Try.f16.params[j]? = some t → args[j]? = some v → Value.okWide Try.prog W .any base t v := hval0
  have hW' := hW
  obtain ⟨p, q, hA0, hV, rfl, hfz, hnd⟩ := hW
  have hA : DataW.TrodAll enc Try.prog W 0 (fun _ => true) true Try.f16.params.toList args.toList ds p := hA0
  rw [Try.params16] at hA hval
  obtain ⟨v0, vs0, d0, ds0, p0, q0, hargs, rfl, rfl, h0, r0⟩ := trodAll_cons hA
  obtain ⟨rfl, rfl, rfl⟩ := trodAll_nil r0
  obtain rfl : args = #[v0] := by cases args; simp_all
  obtain ⟨rfl, rfl⟩ := trodVars_none hV
  obtain ⟨a0, len0, cap0, rfl⟩ := okWide_slice Try.underlying30 (hval 0 30 v0 rfl rfl)
  have k0 := h0
  have lt0 : ∀ x ∈ p0, x.block < W.heap.size := by obtain ⟨m, hm⟩ := k0; exact DataW.trod_lt m _ _ _ hm
  obtain ⟨z0, w0⟩ : ∃ zs, IsRow .u8 W a0 len0 cap0 zs := by
    obtain ⟨fuel, hf⟩ := h0
    rcases open_ints Try.underlying30 Try.underlying5 (by kernel_rfl) hf with ⟨hcs, _⟩ | ⟨x, l, c, zs, hcs, _, hl, hm, hz, _, hcell, hwz⟩
    · simp [Value.cells] at hcs
      obtain ⟨rfl, rfl, rfl⟩ := hcs
      exact ⟨[], .inl ⟨rfl, rfl, rfl, rfl⟩⟩
    · simp [Value.cells] at hcs
      obtain ⟨rfl, rfl, rfl⟩ := hcs
      exact ⟨zs, .inr ⟨_, rfl, hl, hm, by simpa using hz, hcell, hwz⟩⟩
  clear hA0 hval0
  refine (walk a0 len0 cap0 z0 W w0).mono fun e W' ⟨he, bel⟩ => ?_
  subst he
  exact ⟨_, rfl, _, _, _, [], _, [], hW', trodAll_mk1 (shut_bool Try.underlying4 _), (trodAll_cons_mk (Below.trod laidOut (by kernel_rfl) (of_decide_eq_true (by kernel_rfl)) k0 bel lt0) trodAll_mk0), rfl, bel.frame _, fun h => by cases h⟩

theorem closed : joinedFacts Try.prog 16 Try.f16 Rows.fnMendedSpec Rows.fnMendedRow = true := by
  delta joinedFacts
  repeat' (first | (with_reducible exact mayEnter) | (with_reducible refine liftedF _ ?_) | (with_reducible refine madeC _ ?_) | (with_reducible refine Bool.and_eq_true_iff.2 ⟨?_, ?_⟩))
  all_goals kernel_rfl

theorem over : Rows.fnMendedRow.holds Try.pinned (OpenSpec.ofChange Rows.fnMendedSpec) :=
  OpenClaim.holds_of_wide 16 Try.f16 rfl rfl rfl rfl rfl rfl rfl ⟨rfl, rfl, rfl, rfl, rfl⟩ rfl rfl rfl rfl rfl (by kernel_rfl) Try.func16 closed
    (of_decide_eq_true (by kernel_rfl)) (by unfold Func.isWrapper; first | (rw [if_pos (by decide +kernel)]; kernel_rfl) | (rw [if_neg (by decide +kernel)]; exact ⟨rfl, rfl⟩))
    (fun os started H enc _ => lifted os started H enc)

/-- THE STATEMENT -/
theorem proved : Rows.FnMendedSaid := over
#print axioms proved
end Go.Proofs.Ytompdebingllmaa.fnMended
