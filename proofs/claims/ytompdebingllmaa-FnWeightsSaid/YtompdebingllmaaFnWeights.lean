/- The law FnWeights returns true at every input and leaves all that was there as it was. No condition. -/
import Derived.Test.YtompdebingllmaaBase
import Derived.Test.YtompdebingllmaaCountP
import Derived.Test.YtompdebingllmaaDrawC
import Derived.Test.YtompdebingllmaaSame
namespace Go.Proofs.Ytompdebingllmaa.fnWeights
open Go.ChangeShapes Go.WideShapes Go.ChangeAt Go.RowKit
open Go.ChangeMaps (open_string shut_string)
set_option linter.unusedVariables false

open Gol in
set_option maxRecDepth 100000 in
set_option maxHeartbeats 4000000 in
theorem walk (a0 : Option Addr) (len0 cap0 : Nat) (z0 : List Int) (w : World) (w0 : IsRow .u8 w a0 len0 cap0 z0) :
    Calls Try.prog 10 #[.slice a0 len0 cap0] w fun e w' => e = .returned (.bool true) ∧ Below w.heap.size w w' := by
  by_cases hbig : len0 ≤ 1048576
  · have hnot : ¬ (1048576 : Int) < (len0 : Int) := by omega
    have W0 := Lib.hid w0
    clear w0 hbig
    go_enter Try.func10, Try.ntmps10
    go_wp2_with fail
    refine (DrawCodeWeights_any _ _ _ _ _ W0.out).mono ?_
    rintro e w1 ⟨x, y, x0, x1, y0, y1, rfl, hb⟩
    clear hnot
    by_cases h : x ≤ y ∧ y < 4096
    · obtain ⟨a, rfl⟩ := Int.eq_ofNat_of_zero_le x0
      obtain ⟨b, rfl⟩ := Int.eq_ofNat_of_zero_le (show 0 ≤ y by omega)
      obtain ⟨zs, P, hlen, HP, HI, p0, HPs, HPb, HPe, HZ, HA⟩ := count_law a b (by omega) (by omega)
      have HL : Hid (zs.length ≤ 1000000000000) := Lib.hid (by rw [hlen]; decide)
      have h25 := Lib.hid hlen
      have hb4 : (b : Int) ≤ 4095 := by omega
      have hab4 : (a : Int) ≤ (b : Int) := by omega
      clear x0 x1 y0 y1 h hlen
      go_wp2_with fail
      refine (HI.out _).mono ?_
      rintro e w2 ⟨ao1, co1, rfl, o1, b2⟩
      have q3 := hb.trans (b2.mono hb.size)
      go_wp2_with fail
      refine (HP.out _).mono ?_
      rintro e w3 ⟨ao4, co4, rfl, o4, b5⟩
      have k6 := o1.kept b5
      have q7 := q3.trans (b5.mono q3.size)
      go_wp2_with fail
      refine (sameInts_any _ _ _ _ _ k6.rd o4.rd HL.out HL.out).mono ?_
      rintro e w4 ⟨rfl, b8⟩
      rw [eqL_self]
      have k9 := k6.kept b8
      have q11 := q7.trans (b8.mono q7.size)
      rw [h25.out] at k9 ⊢
      obtain ⟨g, rfl, _, hg, hc⟩ := k9.head (by rw [h25.out]; decide)
      rw [h25.out] at hc
      have HC := Lib.hid hc
      clear hc k9 k6 o1 o4 b2 b5 b8 hb q3 q7 HP HI HL
      go_wp2
      go_loopw [9, 10] (fun s i wr => ∃ j : Nat, j ≤ 25 ∧ i = .int .i64 j ∧ s = .int .i64 (P j) ∧ Below w4.heap.size w4 wr) (fun _ i _ => 25 - (intOf i).toNat)
      case atStart => exact ⟨0, by omega, rfl, by rw [p0], Below.refl _ _⟩
      case round =>
        obtain ⟨j, hj, rfl, rfl, hbr⟩ := hrel
        by_cases hlt : j < 25
        · have hcj := (hbr.cell (p := ⟨g, j, none⟩) hg).trans (HC.out j hlt)
          obtain ⟨v0, v1, hv⟩ := HZ.out j hlt
          obtain ⟨s0, s1⟩ := HPb.out j hj
          have Hs := Lib.hid (HPs.out j hlt)
          have hj25 : (j : Int) < 25 := by omega
          obtain ⟨v, hvv⟩ : ∃ v, zs.getD j 0 = v := ⟨_, rfl⟩
          obtain ⟨t, htt⟩ : ∃ t, P j = t := ⟨_, rfl⟩
          have Hv := Lib.hid hvv
          have Ht := Lib.hid htt
          rw [hvv] at hcj v0 v1 hv
          rw [htt] at s0 s1 ⊢
          rw [hvv, htt] at Hs
          clear hvv htt
          by_cases c : v = 0
          · subst c
            clear hv
            go_wp2
            go_roundw
            case rel => exact ⟨j + 1, by omega, by go_num, by rw [Hs.out]; go_num, hbr⟩
            case measure => simp [intOf]; omega
          · have c0 : ¬ v = 0 := c
            have hj5 := hv.resolve_left c
            clear hv c
            rcases hj5 with rfl | rfl | rfl | rfl | rfl
            · go_wp2
              go_roundw
              case rel => exact ⟨0 + 1, by omega, by go_num, by rw [Hs.out], hbr⟩
              case measure => simp [intOf]
            · go_wp2
              go_roundw
              case rel => exact ⟨8 + 1, by omega, by go_num, by rw [Hs.out], hbr⟩
              case measure => simp [intOf]
            · go_wp2
              go_roundw
              case rel => exact ⟨12 + 1, by omega, by go_num, by rw [Hs.out], hbr⟩
              case measure => simp [intOf]
            · go_wp2
              go_roundw
              case rel => exact ⟨16 + 1, by omega, by go_num, by rw [Hs.out], hbr⟩
              case measure => simp [intOf]
            · go_wp2
              go_roundw
              case rel => exact ⟨24 + 1, by omega, by go_num, by rw [Hs.out], hbr⟩
              case measure => simp [intOf]
        · have e : j = 25 := by omega
          subst e
          rw [HPe.out]
          have hx0 := (hbr.cell (p := ⟨g, 0, none⟩) hg).trans (HC.out 0 (by omega))
          have hx1 := (hbr.cell (p := ⟨g, 8, none⟩) hg).trans (HC.out 8 (by omega))
          have hx2 := (hbr.cell (p := ⟨g, 12, none⟩) hg).trans (HC.out 12 (by omega))
          have hx3 := (hbr.cell (p := ⟨g, 16, none⟩) hg).trans (HC.out 16 (by omega))
          have hx4 := (hbr.cell (p := ⟨g, 24, none⟩) hg).trans (HC.out 24 (by omega))
          have ha0 : (0 : Int) ≤ a := by omega
          by_cases c1 : a = 0
          · by_cases c2 : b = 4095
            · obtain ⟨z0, z1, z2, z3, z4⟩ := HA.out c1 c2
              rw [z0] at hx0
              rw [z1] at hx1
              rw [z2] at hx2
              rw [z3] at hx3
              rw [z4] at hx4
              subst c1 c2
              go_wp2
              go_ret
              exact ⟨rfl, q11.trans (hbr.mono q11.size)⟩
            · have d2 : ¬ (b : Int) = 4095 := by omega
              subst c1
              clear hx0 hx1 hx2 hx3 hx4
              go_wp2
              go_ret
              exact ⟨rfl, q11.trans (hbr.mono q11.size)⟩
          · have d1 : ¬ (a : Int) = 0 := by omega
            have d3 : ((a : Int) == 0) = false := by simp; omega
            clear hx0 hx1 hx2 hx3 hx4
            go_wp2
            go_ret
            exact ⟨rfl, q11.trans (hbr.mono q11.size)⟩
    · have hno : ¬ (0 ≤ x ∧ x ≤ y ∧ y < 4096) := fun hh => h hh.2
      have HI := Lib.hid (fun W => implCount_no x y hno W)
      have HP := Lib.hid (fun W => specCount_no x y hno W)
      clear h hno x0 x1 y0 y1
      go_wp2_with fail
      refine (HI.out _).mono ?_
      rintro e w2 ⟨ao1, co1, rfl, o1, b2⟩
      have q3 := hb.trans (b2.mono hb.size)
      go_wp2_with fail
      refine (HP.out _).mono ?_
      rintro e w3 ⟨ao4, co4, rfl, o4, b5⟩
      have k6 := o1.kept b5
      have q7 := q3.trans (b5.mono q3.size)
      go_wp2_with fail
      refine (sameInts_any _ _ _ _ _ k6.rd o4.rd (by simp) (by simp)).mono ?_
      rintro e w4 ⟨rfl, b8⟩
      rw [eqL_self]
      have k9 := k6.kept b8
      have k10 := o4.kept b8
      have q11 := q7.trans (b8.mono q7.size)
      go_wp2_with fail
      refine (sameInts_any _ _ _ _ _ k9.rd k10.rd (by simp) (by simp)).mono ?_
      rintro e w5 ⟨rfl, b12⟩
      rw [eqL_self]
      have q15 := q11.trans (b12.mono q11.size)
      go_wp2
      go_ret
      exact ⟨rfl, q15⟩
  · have hnot : (1048576 : Int) < (len0 : Int) := by omega
    go_enter Try.func10, Try.ntmps10
    go_wp2
    go_ret
    exact ⟨rfl, Below.refl _ _⟩

set_option maxRecDepth 100000 in
theorem lifted (os : Os) (started : os.Started) (H : Type) (enc : TypeId × Value → H) :
    ReturnsInHanded {} Try.checked os 10 .any (Rows.fnWeightsSpec.pre6 enc Try.prog Try.f10 Rows.fnWeightsRow.domain false) (Rows.fnWeightsSpec.post enc Try.prog Try.f10 false true false false) := by
  refine returnsInHanded_of_change (C := Try.checked) own started (by kernel_rfl) Try.func10
    (ChangeSpec.witness6 (enc := enc) (C := Try.checked) false ⟨#[], #[.slice none 0 0], []⟩ 8 (by kernel_rfl) (by kernel_rfl) (by kernel_rfl) (by kernel_rfl)) ?_
  intro W base args ds gs before hval0 hW hcnd _
  have hval : ∀ (j : Nat) t v, Try.f10.params[j]? = some t → args[j]? = some v → Value.okWide Try.prog W .any base t v := hval0
  have hW' := hW
  obtain ⟨p, q, hA0, hV, rfl, hfz, hnd⟩ := hW
  have hA : DataW.TrodAll enc Try.prog W 0 (fun _ => true) true Try.f10.params.toList args.toList ds p := hA0
  rw [Try.params10] at hA hval
  obtain ⟨v0, vs0, d0, ds0, p0, q0, hargs, rfl, rfl, h0, r0⟩ := trodAll_cons hA
  obtain ⟨rfl, rfl, rfl⟩ := trodAll_nil r0
  obtain rfl : args = #[v0] := by cases args; simp_all
  obtain ⟨rfl, rfl⟩ := trodVars_none hV
  obtain ⟨a0, len0, cap0, rfl⟩ := okWide_slice Try.underlying30 (hval 0 30 v0 rfl rfl)
  have k0 := h0
  have lt0 : ∀ x ∈ p0, x.block < W.heap.size := by obtain ⟨m, hm⟩ := k0; exact DataW.trod_lt m _ _ _ hm
  obtain ⟨z0, w0⟩ : ∃ zs, IsRow .u8 W a0 len0 cap0 zs := by
    obtain ⟨fuel, hf⟩ := h0
    rcases open_ints Try.underlying30 Try.underlying5 (by kernel_rfl) hf with ⟨hcs, _⟩ | ⟨x, l, c, zs, hcs, _, hl, hm, hz, _, hcell, hwz⟩
    · simp [Value.cells] at hcs
      obtain ⟨rfl, rfl, rfl⟩ := hcs
      exact ⟨[], .inl ⟨rfl, rfl, rfl, rfl⟩⟩
    · simp [Value.cells] at hcs
      obtain ⟨rfl, rfl, rfl⟩ := hcs
      exact ⟨zs, .inr ⟨_, rfl, hl, hm, by simpa using hz, hcell, hwz⟩⟩
  clear hA0 hval0
  refine (walk a0 len0 cap0 z0 W w0).mono fun e W' ⟨he, bel⟩ => ?_
  subst he
  exact ⟨_, rfl, _, _, _, [], _, [], hW', trodAll_mk1 (shut_bool Try.underlying4 _), (trodAll_cons_mk (Below.trod laidOut (by kernel_rfl) (of_decide_eq_true (by kernel_rfl)) k0 bel lt0) trodAll_mk0), rfl, bel.frame _, fun h => by cases h⟩

theorem closed : joinedFacts Try.prog 10 Try.f10 Rows.fnWeightsSpec Rows.fnWeightsRow = true := by
  delta joinedFacts
  repeat' (first | (with_reducible exact mayEnter) | (with_reducible refine liftedF _ ?_) | (with_reducible refine madeC _ ?_) | (with_reducible refine Bool.and_eq_true_iff.2 ⟨?_, ?_⟩))
  all_goals kernel_rfl

theorem over : Rows.fnWeightsRow.holds Try.pinned (OpenSpec.ofChange Rows.fnWeightsSpec) :=
  OpenClaim.holds_of_wide 10 Try.f10 rfl rfl rfl rfl rfl rfl rfl ⟨rfl, rfl, rfl, rfl, rfl⟩ rfl rfl rfl rfl rfl (by kernel_rfl) Try.func10 closed
    (of_decide_eq_true (by kernel_rfl)) (by unfold Func.isWrapper; first | (rw [if_pos (by decide +kernel)]; kernel_rfl) | (rw [if_neg (by decide +kernel)]; exact ⟨rfl, rfl⟩))
    (fun os started H enc _ => lifted os started H enc)

/-- THE STATEMENT -/
theorem proved : Rows.FnWeightsSaid := over
#print axioms proved
end Go.Proofs.Ytompdebingllmaa.fnWeights
