/- The law FnExactHexAdd returns true at every input and leaves all that was there as it was. No condition. -/
import Derived.Test.YtahmophmdchiaaaBase
import Derived.Test.YtahmophmdchiaaaHexAdd
import Derived.Test.YtahmophmdchiaaaSlices
namespace Go.Proofs.Ytahmophmdchiaaa.fnExactHexAdd
open Go.ChangeShapes Go.WideShapes Go.ChangeAt Go.RowKit
open Go.ChangeMaps (open_string shut_string)
set_option linter.unusedVariables false

open Gol in
set_option maxHeartbeats 2000000 in
theorem walk (a0 : Option Addr) (len0 cap0 : Nat) (z0 : List Int) (a1 : Option Addr) (len1 cap1 : Nat) (z1 : List Int) (w : World) (w0 : IsRow .i64 w a0 len0 cap0 z0) (w1 : IsRow .i64 w a1 len1 cap1 z1) :
    Calls Try.prog 10 #[.slice a0 len0 cap0, .slice a1 len1 cap1] w fun e w' => e = .returned (.bool true) ∧ Below w.heap.size w w' := by
  by_cases hbig0 : len0 ≤ 1048576
  · -- not too long
    by_cases hbig1 : len1 ≤ 1048576
    · -- not too long
      obtain ⟨z0, hlen0, r0⟩ := w0.rd
      have HL0 : Hid (z0.length ≤ 1048576) := (by rw [hlen0]; exact hbig0 : z0.length ≤ 1048576)
      have hnot0 : ¬ (1048576 : Int) < (len0 : Int) := by omega
      obtain ⟨z1, hlen1, r1⟩ := w1.rd
      have HL1 : Hid (z1.length ≤ 1048576) := (by rw [hlen1]; exact hbig1 : z1.length ≤ 1048576)
      have hnot1 : ¬ (1048576 : Int) < (len1 : Int) := by omega
      clear w0 hbig0 hlen0 w1 hbig1 hlen1
      obtain ⟨zs, ok, HS, HI, HZ⟩ : ∃ zs : List Int, ∃ ok : Bool, Hid (∀ (v0 v1 : Value) W, Rd W v0 z0 → Rd W v1 z1 → Calls Try.prog 37 #[v0, v1] W (RetOwns2 W.heap.size zs ok W)) ∧ Hid (∀ (v0 v1 : Value) W, Rd W v0 z0 → Rd W v1 z1 → Calls Try.prog 38 #[v0, v1] W (RetOwns2 W.heap.size zs ok W)) ∧ Hid (zs.length ≤ 1000000000000) := ⟨addZ z0 z1, rowB z0 && rowB z1, Lib.hid (fun va vb W ha hb => specHexAdd_any va vb z0 z1 W ha hb HL0.out HL1.out), Lib.hid (fun va vb W ha hb => implHexAdd_any va vb z0 z1 W ha hb HL0.out HL1.out), Lib.hid (addZ_len z0 z1)⟩
      go_enter Try.func10, Try.ntmps10
      go_wp2_with fail
      refine (toInt_any _ z0 _ r0 HL0.out).mono ?_
      rintro e w1 ⟨ao1, co1, rfl, o1, b2⟩
      have q3 := b2
      go_wp2_with fail
      refine (toInt_any _ z1 _ (r1.kept q3) HL1.out).mono ?_
      rintro e w2 ⟨ao4, co4, rfl, o4, b5⟩
      have k7 := o1.kept b5
      have q8 := q3.trans (b5.mono q3.size)
      go_wp2_with fail
      refine (HS.out _ _ _ k7.rd o4.rd).mono ?_
      rintro e w3 ⟨ao9, co9, rfl, o9, b10⟩
      have q15 := q8.trans (b10.mono q8.size)
      go_wp2_with fail
      refine (toInt_any _ z0 _ (r0.kept q15) HL0.out).mono ?_
      rintro e w4 ⟨ao16, co16, rfl, o16, b17⟩
      have p18 := Owns.apart o16 (fun k hk => o9.lt k hk)
      have k19 := o9.kept b17
      have q20 := q15.trans (b17.mono q15.size)
      go_wp2_with fail
      refine (toInt_any _ z1 _ (r1.kept q20) HL1.out).mono ?_
      rintro e w5 ⟨ao21, co21, rfl, o21, b22⟩
      have p23 := Owns.apart o21 (fun k hk => k19.lt k hk)
      have p24 := Owns.apart o21 (fun k hk => o16.lt k hk)
      have k25 := k19.kept b22
      have k26 := o16.kept b22
      have q27 := q20.trans (b22.mono q20.size)
      go_wp2_with fail
      refine (HI.out _ _ _ k26.rd o21.rd).mono ?_
      rintro e w6 ⟨ao28, co28, rfl, o28, b29⟩
      have p30 := Owns.apart o28 (fun k hk => k25.lt k hk)
      have p31 := Owns.apart o28 (fun k hk => k26.lt k hk)
      have p32 := Owns.apart o28 (fun k hk => o21.lt k hk)
      have k33 := k25.kept b29
      have k34 := k26.kept b29
      have k35 := o21.kept b29
      have q36 := q27.trans (b29.mono q27.size)
      go_wp2_with fail
      refine (eqSame _ _ _ _ o28.rd k33.rd HZ.out).mono ?_
      rintro e w7 ⟨rfl, b37⟩
      have k38 := k33.kept b37
      have k39 := k34.kept b37
      have k40 := k35.kept b37
      have k41 := o28.kept b37
      have q42 := q36.trans (b37.mono q36.size)
      go_wp2_with fail
      refine (toInt_any _ z0 _ (r0.kept q42) HL0.out).mono ?_
      rintro e w8 ⟨ao43, co43, rfl, o43, b44⟩
      have k49 := k38.kept b44
      have k50 := k39.kept b44
      have k51 := k40.kept b44
      have k52 := k41.kept b44
      have q53 := q42.trans (b44.mono q42.size)
      go_wp2_with fail
      refine (eqSame _ _ _ _ k50.rd o43.rd (by have := HL0.out; omega)).mono ?_
      rintro e w9 ⟨rfl, b54⟩
      have k55 := k49.kept b54
      have k56 := k50.kept b54
      have k57 := k51.kept b54
      have k58 := k52.kept b54
      have q60 := q53.trans (b54.mono q53.size)
      go_wp2_with fail
      refine (toInt_any _ z1 _ (r1.kept q60) HL1.out).mono ?_
      rintro e w10 ⟨ao61, co61, rfl, o61, b62⟩
      have k67 := k55.kept b62
      have k68 := k56.kept b62
      have k69 := k57.kept b62
      have k70 := k58.kept b62
      have q71 := q60.trans (b62.mono q60.size)
      go_wp2_with fail
      refine (eqSame _ _ _ _ k69.rd o61.rd (by have := HL1.out; omega)).mono ?_
      rintro e w11 ⟨rfl, b72⟩
      have k73 := k67.kept b72
      have k74 := k68.kept b72
      have k75 := k69.kept b72
      have k76 := k70.kept b72
      have q78 := q71.trans (b72.mono q71.size)
      go_wp2_with fail
      refine (markI _ _ _ _ _ k74 (by have := HL0.out; omega) (by omega) (by omega)).mono ?_
      rintro e w12 ⟨rfl, o79, g80⟩
      have k81 := k73.other g80 p18
      have k82 := k75.other g80 (fun k hk e => p24 k e hk)
      have k83 := k76.other g80 (fun k hk e => p31 k e hk)
      have q84 := Below.marked q78 k74 q15.size q78.size g80
      go_wp2_with fail
      refine (markI _ _ _ _ _ k82 (by have := HL1.out; omega) (by have := HL0.out; omega) (by have := HL0.out; omega)).mono ?_
      rintro e w13 ⟨rfl, o85, g86⟩
      have k87 := k81.other g86 p23
      have k89 := k83.other g86 (fun k hk e => p32 k e hk)
      have q90 := Below.marked q84 k82 q20.size q84.size g86
      go_wp2_with fail
      refine (eqSame _ _ _ _ k89.rd k87.rd HZ.out).mono ?_
      rintro e w14 ⟨rfl, b91⟩
      have k92 := k87.kept b91
      have k93 := k89.kept b91
      have q94 := q90.trans (b91.mono q90.size)
      go_wp2_with fail
      refine (markI _ _ _ _ _ k93 HZ.out (by omega) (by omega)).mono ?_
      rintro e w15 ⟨rfl, o95, g96⟩
      have k97 := k92.other g96 p30
      have q98 := Below.marked q94 k93 q27.size q94.size g96
      go_wp2_with fail
      refine (heldI _ _ _ _ o95.rd HZ.out (by omega) (by omega)).mono ?_
      rintro e w16 ⟨rfl, rfl⟩
      go_wp2_with fail
      refine (toInt_any _ z0 _ (r0.kept q98) HL0.out).mono ?_
      rintro e w17 ⟨ao99, co99, rfl, o99, b100⟩
      have k103 := k97.kept b100
      have k104 := o95.kept b100
      have q105 := q98.trans (b100.mono q98.size)
      go_wp2_with fail
      refine (toInt_any _ z1 _ (r1.kept q105) HL1.out).mono ?_
      rintro e w18 ⟨ao106, co106, rfl, o106, b107⟩
      have k111 := k103.kept b107
      have k112 := k104.kept b107
      have k113 := o99.kept b107
      have q114 := q105.trans (b107.mono q105.size)
      go_wp2_with fail
      refine (HI.out _ _ _ k113.rd o106.rd).mono ?_
      rintro e w19 ⟨ao115, co115, rfl, o115, b116⟩
      have k121 := k111.kept b116
      have k122 := k112.kept b116
      have q125 := q114.trans (b116.mono q114.size)
      go_wp2_with fail
      refine (eqSame _ _ _ _ o115.rd k121.rd HZ.out).mono ?_
      rintro e w20 ⟨rfl, b126⟩
      have k128 := k122.kept b126
      have q130 := q125.trans (b126.mono q125.size)
      go_wp2_with fail
      refine (heldI _ _ _ _ k128.rd HZ.out (by omega) (by omega)).mono ?_
      rintro e w21 ⟨rfl, rfl⟩
      go_wp2
      go_ret
      exact ⟨rfl, q130⟩
    · have hbig1' : (1048576 : Int) < (len1 : Int) := by omega
      have hnot0 : ¬ (1048576 : Int) < (len0 : Int) := by omega
      go_enter Try.func10, Try.ntmps10
      go_wp2
      go_ret
      exact ⟨rfl, Below.refl _ _⟩
  · have hbig0' : (1048576 : Int) < (len0 : Int) := by omega
    go_enter Try.func10, Try.ntmps10
    go_wp2
    go_ret
    exact ⟨rfl, Below.refl _ _⟩

set_option maxRecDepth 100000 in
theorem lifted (os : Os) (started : os.Started) (H : Type) (enc : TypeId × Value → H) :
    ReturnsInHanded {} Try.checked os 10 .any (Rows.fnExactHexAddSpec.pre6 enc Try.prog Try.f10 Rows.fnExactHexAddRow.domain false) (Rows.fnExactHexAddSpec.post enc Try.prog Try.f10 false true false false) := by
  refine returnsInHanded_of_change (C := Try.checked) own started (by kernel_rfl) Try.func10
    (ChangeSpec.witness6 (enc := enc) (C := Try.checked) false ⟨#[], #[.slice none 0 0, .slice none 0 0], []⟩ 8 (by kernel_rfl) (by kernel_rfl) (by kernel_rfl) (by kernel_rfl)) ?_
  intro W base args ds gs before hval0 hW hcnd _
  have hval : ∀ (j : Nat) t v, Try.f10.params[j]? = some t → args[j]? = some v → Value.okWide Try.prog W .any base t v := hval0
  have hW' := hW
  obtain ⟨p, q, hA0, hV, rfl, hfz, hnd⟩ := hW
  have hA : DataW.TrodAll enc Try.prog W 0 (fun _ => true) true Try.f10.params.toList args.toList ds p := hA0
  rw [Try.params10] at hA hval
  obtain ⟨v0, vs0, d0, ds0, p0, q0, hargs, rfl, rfl, h0, r0⟩ := trodAll_cons hA
  obtain ⟨v1, vs1, d1, ds1, p1, q1, rfl, rfl, rfl, h1, r1⟩ := trodAll_cons r0
  obtain ⟨rfl, rfl, rfl⟩ := trodAll_nil r1
  obtain rfl : args = #[v0, v1] := by cases args; simp_all
  obtain ⟨rfl, rfl⟩ := trodVars_none hV
  obtain ⟨a0, len0, cap0, rfl⟩ := okWide_slice Try.underlying28 (hval 0 28 v0 rfl rfl)
  have k0 := h0
  have lt0 : ∀ x ∈ p0, x.block < W.heap.size := by obtain ⟨m, hm⟩ := k0; exact DataW.trod_lt m _ _ _ hm
  obtain ⟨z0, w0⟩ : ∃ zs, IsRow .i64 W a0 len0 cap0 zs := by
    obtain ⟨fuel, hf⟩ := h0
    rcases open_ints Try.underlying28 Try.underlying3 (by kernel_rfl) hf with ⟨hcs, _⟩ | ⟨x, l, c, zs, hcs, _, hl, hm, hz, _, hcell, hwz⟩
    · simp [Value.cells] at hcs
      obtain ⟨rfl, rfl, rfl⟩ := hcs
      exact ⟨[], .inl ⟨rfl, rfl, rfl, rfl⟩⟩
    · simp [Value.cells] at hcs
      obtain ⟨rfl, rfl, rfl⟩ := hcs
      exact ⟨zs, .inr ⟨_, rfl, hl, hm, by simpa using hz, hcell, hwz⟩⟩
  obtain ⟨a1, len1, cap1, rfl⟩ := okWide_slice Try.underlying28 (hval 1 28 v1 rfl rfl)
  have k1 := h1
  have lt1 : ∀ x ∈ p1, x.block < W.heap.size := by obtain ⟨m, hm⟩ := k1; exact DataW.trod_lt m _ _ _ hm
  obtain ⟨z1, w1⟩ : ∃ zs, IsRow .i64 W a1 len1 cap1 zs := by
    obtain ⟨fuel, hf⟩ := h1
    rcases open_ints Try.underlying28 Try.underlying3 (by kernel_rfl) hf with ⟨hcs, _⟩ | ⟨x, l, c, zs, hcs, _, hl, hm, hz, _, hcell, hwz⟩
    · simp [Value.cells] at hcs
      obtain ⟨rfl, rfl, rfl⟩ := hcs
      exact ⟨[], .inl ⟨rfl, rfl, rfl, rfl⟩⟩
    · simp [Value.cells] at hcs
      obtain ⟨rfl, rfl, rfl⟩ := hcs
      exact ⟨zs, .inr ⟨_, rfl, hl, hm, by simpa using hz, hcell, hwz⟩⟩
  clear hA0 hval0
  refine (walk a0 len0 cap0 z0 a1 len1 cap1 z1 W w0 w1).mono fun e W' ⟨he, bel⟩ => ?_
  subst he
  exact ⟨_, rfl, _, _, _, [], _, [], hW', trodAll_mk1 (shut_bool Try.underlying4 _), (trodAll_cons_mk (Below.trod laidOut (by kernel_rfl) (of_decide_eq_true (by kernel_rfl)) k0 bel lt0) (trodAll_cons_mk (Below.trod laidOut (by kernel_rfl) (of_decide_eq_true (by kernel_rfl)) k1 bel lt1) trodAll_mk0)), rfl, bel.frame _, fun h => by cases h⟩

theorem closed : joinedFacts Try.prog 10 Try.f10 Rows.fnExactHexAddSpec Rows.fnExactHexAddRow = true := by
  delta joinedFacts
  repeat' (first | (with_reducible exact mayEnter) | (with_reducible refine liftedF _ ?_) | (with_reducible refine madeC _ ?_) | (with_reducible refine Bool.and_eq_true_iff.2 ⟨?_, ?_⟩))
  all_goals kernel_rfl

theorem over : Rows.fnExactHexAddRow.holds Try.pinned (OpenSpec.ofChange Rows.fnExactHexAddSpec) :=
  OpenClaim.holds_of_wide 10 Try.f10 rfl rfl rfl rfl rfl rfl rfl ⟨rfl, rfl, rfl, rfl, rfl⟩ rfl rfl rfl rfl rfl (by kernel_rfl) Try.func10 closed
    (of_decide_eq_true (by kernel_rfl)) (by unfold Func.isWrapper; first | (rw [if_pos (by decide +kernel)]; kernel_rfl) | (rw [if_neg (by decide +kernel)]; exact ⟨rfl, rfl⟩))
    (fun os started H enc _ => lifted os started H enc)

/-- THE STATEMENT -/
theorem proved : Rows.FnExactHexAddSaid := over
#print axioms proved
end Go.Proofs.Ytahmophmdchiaaa.fnExactHexAdd
