/- The law FnHexOf returns true at every input and leaves all that was there as it was. No condition. -/
import Derived.Test.YtahmophmdchiaaaBase
import Derived.Test.YtahmophmdchiaaaHexIn
import Derived.Test.YtahmophmdchiaaaDrawB
import Derived.Test.YtahmophmdchiaaaSame
import Derived.Test.YtahmophmdchiaaaHexLaws
namespace Go.Proofs.Ytahmophmdchiaaa.fnHexOf
open Go.ChangeShapes Go.WideShapes Go.ChangeAt Go.RowKit
open Go.ChangeMaps (open_string shut_string)
set_option linter.unusedVariables false

open Gol in
set_option maxHeartbeats 2000000 in
theorem walk (a0 : Option Addr) (len0 cap0 : Nat) (z0 : List Int) (w : World) (w0 : IsRow .u8 w a0 len0 cap0 z0) :
    Calls Try.prog 14 #[.slice a0 len0 cap0] w fun e w' => e = .returned (.bool true) ∧ Below w.heap.size w w' := by
  by_cases hbig : len0 ≤ 1048576
  · have hnot : ¬ (1048576 : Int) < (len0 : Int) := by omega
    have W0 := Lib.hid w0
    clear w0 hbig
    go_enter Try.func14, Try.ntmps14
    go_wp2_with fail
    refine (DrawHexOf_any _ _ _ _ _ W0.out).mono ?_
    rintro e w1 ⟨x, y, z, x0, x1, y0, y1, z0, z1, rfl, hb⟩
    clear hnot
    by_cases hz : z ≤ 3
    · obtain ⟨p, rfl⟩ := Int.eq_ofNat_of_zero_le x0
      obtain ⟨q, rfl⟩ := Int.eq_ofNat_of_zero_le y0
      obtain ⟨r, rfl⟩ := Int.eq_ofNat_of_zero_le z0
      obtain ⟨l, hl, HB, HI, HS, g0, g1, g2, hwt⟩ := hexOf_yes p q r (by omega) (by omega) (by omega)
      have HL := Lib.hid hl
      have HV := Lib.hid (weightV_row hl)
      have HZ : Hid ((ints l).length ≤ 1000000000000) := Lib.hid (by rw [row_len hl]; decide)
      have HZ2 : Hid ((ints l).length ≤ 1048576) := Lib.hid (by rw [row_len hl]; decide)
      clear hz hl x0 x1 y0 y1 z0 z1
      go_wp2_with fail
      refine (HI.out _).mono ?_
      rintro e w2 ⟨ao1, co1, rfl, o1, b2⟩
      have q3 := hb.trans (b2.mono hb.size)
      go_wp2_with fail
      refine (HS.out _).mono ?_
      rintro e w3 ⟨ao4, co4, rfl, o4, b5⟩
      have k6 := o1.kept b5
      have q7 := q3.trans (b5.mono q3.size)
      go_wp2_with fail
      refine (sameInts_any _ _ _ _ _ k6.rd o4.rd HZ.out HZ.out).mono ?_
      rintro e w4 ⟨rfl, b8⟩
      have k9 := k6.kept b8
      have q11 := q7.trans (b8.mono q7.size)
      rw [eqL_self]
      go_wp2_with fail
      refine (implHexWeight_any _ _ _ k9.rd HZ2.out).mono ?_
      rintro e w5 ⟨rfl, rfl⟩
      rw [HV.out]
      go_wp2_with fail
      refine (implHexIn_any _ _ _ k9.rd HZ2.out).mono ?_
      rintro e w6 ⟨rfl, b12⟩
      have k13 := k9.kept b12
      have q15 := q11.trans (b12.mono q11.size)
      rw [HB.out]
      obtain ⟨g, rfl, _, _, hc⟩ := k13.head (by rw [row_len HL.out]; decide)
      have c0 := hc 0 (by rw [row_len HL.out]; decide)
      rw [ints_getD, g0] at c0
      have c1 := hc 1 (by rw [row_len HL.out]; decide)
      rw [ints_getD, g1] at c1
      have c2 := hc 2 (by rw [row_len HL.out]; decide)
      rw [ints_getD, g2] at c2
      clear hc
      have i2 : (2 : Int) < ((ints l).length : Int) := by rw [row_len HL.out]; decide
      have i1 : (1 : Int) < ((ints l).length : Int) := by omega
      have i0 : (0 : Int) < ((ints l).length : Int) := by omega
      generalize wt l = n at *
      rcases hwt with rfl | rfl | rfl
      · go_wp2
        go_ret
        exact ⟨rfl, q15⟩
      · go_wp2
        go_ret
        exact ⟨rfl, q15⟩
      · go_wp2
        go_ret
        exact ⟨rfl, q15⟩
    · have hK : hexK x y z = false := by simp [hexK, dig, hz]
      have hV : hexV x y z = [] := by simp [hexV, dig, hz]
      have HI := Lib.hid (fun W => implHexOf_any x y z W)
      have HS := Lib.hid (fun W => specHexOf_any x y z W)
      rw [hK, hV] at HI HS
      clear hK hV hz
      go_wp2_with fail
      refine (HI.out _).mono ?_
      rintro e w2 ⟨ao1, co1, rfl, o1, b2⟩
      have q3 := hb.trans (b2.mono hb.size)
      go_wp2_with fail
      refine (HS.out _).mono ?_
      rintro e w3 ⟨ao4, co4, rfl, o4, b5⟩
      have k6 := o1.kept b5
      have q7 := q3.trans (b5.mono q3.size)
      go_wp2_with fail
      refine (sameInts_any _ _ _ _ _ k6.rd o4.rd (by simp) (by simp)).mono ?_
      rintro e w4 ⟨rfl, b8⟩
      have k9 := k6.kept b8
      have k10 := o4.kept b8
      have q11 := q7.trans (b8.mono q7.size)
      rw [eqL_self]
      go_wp2_with fail
      refine (sameInts_any _ _ _ _ _ k9.rd k10.rd (by simp) (by simp)).mono ?_
      rintro e w5 ⟨rfl, b12⟩
      have q15 := q11.trans (b12.mono q11.size)
      rw [eqL_self]
      go_wp2
      go_ret
      exact ⟨rfl, q15⟩
  · have hnot : (1048576 : Int) < (len0 : Int) := by omega
    go_enter Try.func14, Try.ntmps14
    go_wp2
    go_ret
    exact ⟨rfl, Below.refl _ _⟩

set_option maxRecDepth 100000 in
theorem lifted (os : Os) (started : os.Started) (H : Type) (enc : TypeId × Value → H) :
    ReturnsInHanded {} Try.checked os 14 .any (Rows.fnHexOfSpec.pre6 enc Try.prog Try.f14 Rows.fnHexOfRow.domain false) (Rows.fnHexOfSpec.post enc Try.prog Try.f14 false true false false) := by
  refine returnsInHanded_of_change (C := Try.checked) own started (by kernel_rfl) Try.func14
    (ChangeSpec.witness6 (enc := enc) (C := Try.checked) false ⟨#[], #[.slice none 0 0], []⟩ 8 (by kernel_rfl) (by kernel_rfl) (by kernel_rfl) (by kernel_rfl)) ?_
  intro W base args ds gs before hval0 hW hcnd _
  have hval : ∀ (j : Nat) t v, Try.f14.params[j]? = some t → args[j]? = some v → Value.okWide Try.prog W .any base t v := hval0
  have hW' := hW
  obtain ⟨p, q, hA0, hV, rfl, hfz, hnd⟩ := hW
  have hA : DataW.TrodAll enc Try.prog W 0 (fun _ => true) true Try.f14.params.toList args.toList ds p := hA0
  rw [Try.params14] at hA hval
  obtain ⟨v0, vs0, d0, ds0, p0, q0, hargs, rfl, rfl, h0, r0⟩ := trodAll_cons hA
  obtain ⟨rfl, rfl, rfl⟩ := trodAll_nil r0
  obtain rfl : args = #[v0] := by cases args; simp_all
  obtain ⟨rfl, rfl⟩ := trodVars_none hV
  obtain ⟨a0, len0, cap0, rfl⟩ := okWide_slice Try.underlying24 (hval 0 24 v0 rfl rfl)
  have k0 := h0
  have lt0 : ∀ x ∈ p0, x.block < W.heap.size := by obtain ⟨m, hm⟩ := k0; exact DataW.trod_lt m _ _ _ hm
  obtain ⟨z0, w0⟩ : ∃ zs, IsRow .u8 W a0 len0 cap0 zs := by
    obtain ⟨fuel, hf⟩ := h0
    rcases open_ints Try.underlying24 Try.underlying5 (by kernel_rfl) hf with ⟨hcs, _⟩ | ⟨x, l, c, zs, hcs, _, hl, hm, hz, _, hcell, hwz⟩
    · simp [Value.cells] at hcs
      obtain ⟨rfl, rfl, rfl⟩ := hcs
      exact ⟨[], .inl ⟨rfl, rfl, rfl, rfl⟩⟩
    · simp [Value.cells] at hcs
      obtain ⟨rfl, rfl, rfl⟩ := hcs
      exact ⟨zs, .inr ⟨_, rfl, hl, hm, by simpa using hz, hcell, hwz⟩⟩
  clear hA0 hval0
  refine (walk a0 len0 cap0 z0 W w0).mono fun e W' ⟨he, bel⟩ => ?_
  subst he
  exact ⟨_, rfl, _, _, _, [], _, [], hW', trodAll_mk1 (shut_bool Try.underlying4 _), (trodAll_cons_mk (Below.trod laidOut (by kernel_rfl) (of_decide_eq_true (by kernel_rfl)) k0 bel lt0) trodAll_mk0), rfl, bel.frame _, fun h => by cases h⟩

theorem closed : joinedFacts Try.prog 14 Try.f14 Rows.fnHexOfSpec Rows.fnHexOfRow = true := by
  delta joinedFacts
  repeat' (first | (with_reducible exact mayEnter) | (with_reducible refine liftedF _ ?_) | (with_reducible refine madeC _ ?_) | (with_reducible refine Bool.and_eq_true_iff.2 ⟨?_, ?_⟩))
  all_goals kernel_rfl

theorem over : Rows.fnHexOfRow.holds Try.pinned (OpenSpec.ofChange Rows.fnHexOfSpec) :=
  OpenClaim.holds_of_wide 14 Try.f14 rfl rfl rfl rfl rfl rfl rfl ⟨rfl, rfl, rfl, rfl, rfl⟩ rfl rfl rfl rfl rfl (by kernel_rfl) Try.func14 closed
    (of_decide_eq_true (by kernel_rfl)) (by unfold Func.isWrapper; first | (rw [if_pos (by decide +kernel)]; kernel_rfl) | (rw [if_neg (by decide +kernel)]; exact ⟨rfl, rfl⟩))
    (fun os started H enc _ => lifted os started H enc)

/-- THE STATEMENT -/
theorem proved : Rows.FnHexOfSaid := over
#print axioms proved
end Go.Proofs.Ytahmophmdchiaaa.fnHexOf
