/- The law FnPlaces returns true at every input and leaves all that was there as it was. No condition. -/
import Derived.Test.YtdcljbohoefpcaaBase
import Derived.Test.YtdcljbohoefpcaaDrawA
import Derived.Test.YtdcljbohoefpcaaWordOf
import Derived.Test.YtdcljbohoefpcaaSame
namespace Go.Proofs.Ytdcljbohoefpcaa.fnPlaces
open Go.ChangeShapes Go.WideShapes Go.ChangeAt Go.RowKit
open Go.ChangeMaps (open_string shut_string)
set_option linter.unusedVariables false

open Gol in
set_option maxHeartbeats 2000000 in
theorem walk (a0 : Option Addr) (len0 cap0 : Nat) (z0 : List Int) (w : World) (w0 : IsRow .u8 w a0 len0 cap0 z0) :
    Calls Try.prog 17 #[.slice a0 len0 cap0] w fun e w' => e = .returned (.bool true) ∧ Below w.heap.size w w' := by
  by_cases hbig : len0 ≤ 1048576
  · have hnot : ¬ (1048576 : Int) < (len0 : Int) := by omega
    have W0 := Lib.hid w0
    clear w0 hbig
    go_enter Try.func17, Try.ntmps17
    go_wp2_with fail
    refine (DrawWordPlaces_any _ _ _ _ _ W0.out).mono ?_
    rintro e w1 ⟨x, hx, rfl, hb⟩
    clear hx hnot
    by_cases hv : IsW x
    · obtain ⟨n, rfl, hn⟩ := hv.of
      have h0 : (0 : Int) ≤ n := by omega
      have h1 : (n : Int) ≤ 16777215 := by omega
      have Hv := Lib.hid hv
      have Hn := Lib.hid hn
      clear hv hn
      obtain ⟨zs, HP, HS, HL, HA, HO⟩ := places_all n Hv.out Hn.out
      go_wp2_with fail
      refine (HP.out _).mono ?_
      rintro e w2 ⟨a2, c2, rfl, ho2, hb2⟩
      go_wp2_with fail
      refine (HS.out _).mono ?_
      rintro e w3 ⟨a3, c3, rfl, ho3, hb3⟩
      have k2 := ho2.kept hb3
      go_wp2_with fail
      refine (sameInts_any _ _ zs zs _ k2.rd ho3.rd (by have := HL.out; omega) (by have := HL.out; omega)).mono ?_
      rintro e w4 ⟨rfl, hb4⟩
      rw [eqL_self]
      have k4 := k2.kept hb4
      have q4 : Below w.heap.size w w4 := by
        have q2 := hb.trans (hb2.mono hb.size)
        have q3 := q2.trans (hb3.mono q2.size)
        exact q3.trans (hb4.mono q3.size)
      have K4 := Lib.hid k4
      clear ho2 ho3 k2 k4 hb2 hb3 hb4 hb h0 h1
      go_wp2
      go_loopw [8] (fun i wr => ∃ j : Nat, (j = 0 ∨ j + 1 ≤ zs.length) ∧ i = .int .i64 ((j + 1 : Nat) : Int) ∧ Below w4.heap.size w4 wr) (fun i _ => zs.length + 2 - (intOf i).toNat)
      case atStart => exact ⟨0, .inl rfl, rfl, Below.refl _ _⟩
      case round =>
        obtain ⟨j, hj, rfl, hbr⟩ := hrel
        by_cases hlt : j + 1 < zs.length
        · obtain ⟨g, rfl, _, hg, hc⟩ := (K4.out.kept hbr).head (by omega)
          have hc0 := hc j (by omega)
          have hc1 := hc (j + 1) hlt
          have hxy := HA.out j hlt
          have i1 : (j : Int) + 1 < (zs.length : Int) := by omega
          have i2 : (j : Int) < (zs.length : Int) := by omega
          have i3 : (zs.length : Int) ≤ 24 := by have := HL.out; omega
          generalize zs.getD j 0 = x at *
          generalize zs.getD (j + 1) 0 = y at *
          have hd : decide (y ≤ x) = false := decide_eq_false (by omega)
          clear hc hj
          go_wp2
          go_quiet (fail)
          go_wp2
          go_roundw
          case rel => exact ⟨j + 1, .inr (by omega), by go_num, below_drewN hbr _⟩
          case measure => simp [intOf]; omega
        · have hlt' : ¬ ((j : Int) + 1 < (zs.length : Int)) := by omega
          have kr := (K4.out.kept hbr).rd
          have Kr := Lib.hid kr
          clear kr
          go_wp2_with fail
          refine (implOf _ zs _ Kr.out (by have := HL.out; omega)).mono ?_
          rintro e w5 ⟨rfl, rfl⟩
          rw [HO.out]
          unfold ofV
          go_wp2
          go_ret
          exact ⟨rfl, q4.trans (hbr.mono q4.size)⟩
    · by_cases h0 : 0 ≤ x
      · have h1 : ¬ x ≤ 16777215 := fun h => hv ⟨h0, by omega⟩
        have h2 : decide (x ≤ 16777215) = false := decide_eq_false h1
        have Hv := Lib.hid hv
        clear hv
        go_wp2_with fail
        refine (implPlaces_no _ Hv.out _).mono ?_
        rintro e w2 ⟨a2, c2, rfl, ho2, hb2⟩
        go_wp2_with fail
        refine (specPlaces_no _ Hv.out _).mono ?_
        rintro e w3 ⟨a3, c3, rfl, ho3, hb3⟩
        have k2 := ho2.kept hb3
        go_wp2_with fail
        refine (sameInts_any _ _ [] [] _ k2.rd ho3.rd (by simp) (by simp)).mono ?_
        rintro e w4 ⟨rfl, hb4⟩
        rw [eqL_self]
        have k4 := k2.kept hb4
        have k3 := ho3.kept hb4
        go_wp2_with fail
        refine (sameInts_any _ _ [] [] _ k4.rd k3.rd (by simp) (by simp)).mono ?_
        rintro e w5 ⟨rfl, hb5⟩
        rw [eqL_self]
        go_wp2
        go_ret
        refine ⟨rfl, ?_⟩
        have q2 := hb.trans (hb2.mono hb.size)
        have q3 := q2.trans (hb3.mono q2.size)
        have q4 := q3.trans (hb4.mono q3.size)
        exact q4.trans (hb5.mono q4.size)
      · have Hv := Lib.hid hv
        clear hv
        go_wp2_with fail
        refine (implPlaces_no _ Hv.out _).mono ?_
        rintro e w2 ⟨a2, c2, rfl, ho2, hb2⟩
        go_wp2_with fail
        refine (specPlaces_no _ Hv.out _).mono ?_
        rintro e w3 ⟨a3, c3, rfl, ho3, hb3⟩
        have k2 := ho2.kept hb3
        go_wp2_with fail
        refine (sameInts_any _ _ [] [] _ k2.rd ho3.rd (by simp) (by simp)).mono ?_
        rintro e w4 ⟨rfl, hb4⟩
        rw [eqL_self]
        have k4 := k2.kept hb4
        have k3 := ho3.kept hb4
        go_wp2_with fail
        refine (sameInts_any _ _ [] [] _ k4.rd k3.rd (by simp) (by simp)).mono ?_
        rintro e w5 ⟨rfl, hb5⟩
        rw [eqL_self]
        go_wp2
        go_ret
        refine ⟨rfl, ?_⟩
        have q2 := hb.trans (hb2.mono hb.size)
        have q3 := q2.trans (hb3.mono q2.size)
        have q4 := q3.trans (hb4.mono q3.size)
        exact q4.trans (hb5.mono q4.size)
  · have hnot : (1048576 : Int) < (len0 : Int) := by omega
    go_enter Try.func17, Try.ntmps17
    go_wp2
    go_ret
    exact ⟨rfl, Below.refl _ _⟩

set_option maxRecDepth 100000 in
theorem lifted (os : Os) (started : os.Started) (H : Type) (enc : TypeId × Value → H) :
    ReturnsInHanded {} Try.checked os 17 .any (Rows.fnPlacesSpec.pre6 enc Try.prog Try.f17 Rows.fnPlacesRow.domain false) (Rows.fnPlacesSpec.post enc Try.prog Try.f17 false true false false) := by
  refine returnsInHanded_of_change (C := Try.checked) own started (by kernel_rfl) Try.func17
    (ChangeSpec.witness6 (enc := enc) (C := Try.checked) false ⟨#[], #[.slice none 0 0], []⟩ 8 (by kernel_rfl) (by kernel_rfl) (by kernel_rfl) (by kernel_rfl)) ?_
  intro W base args ds gs before hval0 hW hcnd _
  have hval : ∀ (j : Nat) t v, Try.f17.params[j]? = some t → args[j]? = some v → Value.okWide Try.prog W .any base t v := hval0
  have hW' := hW
  obtain ⟨p, q, hA0, hV, rfl, hfz, hnd⟩ := hW
  have hA : DataW.TrodAll enc Try.prog W 0 (fun _ => true) true Try.f17.params.toList args.toList ds p := hA0
  rw [Try.params17] at hA hval
  obtain ⟨v0, vs0, d0, ds0, p0, q0, hargs, rfl, rfl, h0, r0⟩ := trodAll_cons hA
  obtain ⟨rfl, rfl, rfl⟩ := trodAll_nil r0
  obtain rfl : args = #[v0] := by cases args; simp_all
  obtain ⟨rfl, rfl⟩ := trodVars_none hV
  obtain ⟨a0, len0, cap0, rfl⟩ := okWide_slice Try.underlying37 (hval 0 37 v0 rfl rfl)
  have k0 := h0
  have lt0 : ∀ x ∈ p0, x.block < W.heap.size := by obtain ⟨m, hm⟩ := k0; exact DataW.trod_lt m _ _ _ hm
  obtain ⟨z0, w0⟩ : ∃ zs, IsRow .u8 W a0 len0 cap0 zs := by
    obtain ⟨fuel, hf⟩ := h0
    rcases open_ints Try.underlying37 Try.underlying5 (by kernel_rfl) hf with ⟨hcs, _⟩ | ⟨x, l, c, zs, hcs, _, hl, hm, hz, _, hcell, hwz⟩
    · simp [Value.cells] at hcs
      obtain ⟨rfl, rfl, rfl⟩ := hcs
      exact ⟨[], .inl ⟨rfl, rfl, rfl, rfl⟩⟩
    · simp [Value.cells] at hcs
      obtain ⟨rfl, rfl, rfl⟩ := hcs
      exact ⟨zs, .inr ⟨_, rfl, hl, hm, by simpa using hz, hcell, hwz⟩⟩
  clear hA0 hval0
  refine (walk a0 len0 cap0 z0 W w0).mono fun e W' ⟨he, bel⟩ => ?_
  subst he
  exact ⟨_, rfl, _, _, _, [], _, [], hW', trodAll_mk1 (shut_bool Try.underlying4 _), (trodAll_cons_mk (Below.trod laidOut (by kernel_rfl) (of_decide_eq_true (by kernel_rfl)) k0 bel lt0) trodAll_mk0), rfl, bel.frame _, fun h => by cases h⟩

theorem closed : joinedFacts Try.prog 17 Try.f17 Rows.fnPlacesSpec Rows.fnPlacesRow = true := by
  delta joinedFacts
  repeat' (first | (with_reducible exact mayEnter) | (with_reducible refine liftedF _ ?_) | (with_reducible refine madeC _ ?_) | (with_reducible refine Bool.and_eq_true_iff.2 ⟨?_, ?_⟩))
  all_goals kernel_rfl

theorem over : Rows.fnPlacesRow.holds Try.pinned (OpenSpec.ofChange Rows.fnPlacesSpec) :=
  OpenClaim.holds_of_wide 17 Try.f17 rfl rfl rfl rfl rfl rfl rfl ⟨rfl, rfl, rfl, rfl, rfl⟩ rfl rfl rfl rfl rfl (by kernel_rfl) Try.func17 closed
    (of_decide_eq_true (by kernel_rfl)) (by unfold Func.isWrapper; first | (rw [if_pos (by decide +kernel)]; kernel_rfl) | (rw [if_neg (by decide +kernel)]; exact ⟨rfl, rfl⟩))
    (fun os started H enc _ => lifted os started H enc)

/-- THE STATEMENT -/
theorem proved : Rows.FnPlacesSaid := over
#print axioms proved
end Go.Proofs.Ytdcljbohoefpcaa.fnPlaces
