/- The law FnAdd returns true at every input and leaves all that was there as it was. No condition. -/
import Derived.Test.YtdcljbohoefpcaaBase
import Derived.Test.YtdcljbohoefpcaaDrawA
import Derived.Test.YtdcljbohoefpcaaWords1
namespace Go.Proofs.Ytdcljbohoefpcaa.fnAdd
open Go.ChangeShapes Go.WideShapes Go.ChangeAt Go.RowKit
open Go.ChangeMaps (open_string shut_string)
set_option linter.unusedVariables false

open Gol in
set_option maxHeartbeats 2000000 in
theorem walk (a0 : Option Addr) (len0 cap0 : Nat) (z0 : List Int) (w : World) (w0 : IsRow .u8 w a0 len0 cap0 z0) :
    Calls Try.prog 19 #[.slice a0 len0 cap0] w fun e w' => e = .returned (.bool true) ∧ Below w.heap.size w w' := by
  by_cases hbig : len0 ≤ 1048576
  · have hnot : ¬ (1048576 : Int) < (len0 : Int) := by omega
    have W0 := Lib.hid w0
    clear w0 hbig
    go_enter Try.func19, Try.ntmps19
    go_wp2_with fail
    refine (DrawWordAdd_any _ _ _ _ _ W0.out).mono ?_
    rintro e w1 ⟨x, y, hx, hy, rfl, hb⟩
    clear hx hy hnot
    by_cases hv : IsW x
    · by_cases hu : IsW y
      · obtain ⟨n, rfl, hn⟩ := hv.of
        obtain ⟨m, rfl, hm⟩ := hu.of
        have h0 : (0 : Int) ≤ n := by omega
        have h1 : (n : Int) ≤ 16777215 := by omega
        have j0 : (0 : Int) ≤ m := by omega
        have j1 : (m : Int) ≤ 16777215 := by omega
        have Hv := Lib.hid hv
        have Hu := Lib.hid hu
        have Hn := Lib.hid hn
        have Hm := Lib.hid hm
        clear hv hu hn hm
        have b := i64_xor n m (by have := Hn.out; omega) (by have := Hm.out; omega)
        have b' := i64_xor m n (by have := Hm.out; omega) (by have := Hn.out; omega)
        rw [Nat.xor_comm] at b'
        have ba := i64_and n m (by have := Hn.out; omega) (by have := Hm.out; omega)
        have Ho := Lib.hid (IsW.mk (n ^^^ m) (xor_lt24 Hn.out Hm.out))
        have Hk := Lib.hid (IsW.mk (n &&& m) (and_lt24 Hm.out))
        have o0 : (0 : Int) ≤ (n ^^^ m : Nat) := Ho.out.1
        have o1 : ((n ^^^ m : Nat) : Int) ≤ 16777215 := by have := Ho.out.2; omega
        have k0 : (0 : Int) ≤ (n &&& m : Nat) := Hk.out.1
        have k1 : ((n &&& m : Nat) : Int) ≤ 16777215 := by have := Hk.out.2; omega
        have hp : pc (n ^^^ m) + 2 * pc (n &&& m) = pc n + pc m := pcN_xor n m 24
        have q1 : pc n ≤ 24 := pcN_le 24 n
        have q2 : pc m ≤ 24 := pcN_le 24 m
        have q3 : pc (n &&& m) ≤ 24 := pcN_le 24 _
        have q4 : pc (n ^^^ m) ≤ 24 := pcN_le 24 _
        have hp1 : (pc (n ^^^ m) : Int) ≤ (pc n : Int) + (pc m : Int) - 2 * (pc (n &&& m) : Int) := by omega
        have hp2 : (pc n : Int) + (pc m : Int) - 2 * (pc (n &&& m) : Int) ≤ (pc (n ^^^ m) : Int) := by omega
        have hq : ((pc (n ^^^ m) : Int) == (pc n : Int) + (pc m : Int) - 2 * (pc (n &&& m) : Int)) = true := by rw [beq_iff_eq]; omega
        clear hp hp1 hp2
        generalize n ^^^ m = o at *
        generalize n &&& m = k at *
        go_wp2_with (first | (go_at_call 60; refine (weight_any _ (by first | exact Hv.out | exact Hu.out | exact Ho.out | exact Hk.out) _).mono ?_; rintro e w2 ⟨rfl, rfl⟩; simp only [Int.toNat_natCast]) | go_in)
        go_ret
        exact ⟨rfl, hb⟩
      · have h0 : 0 ≤ x := hv.1
        have h1 : x ≤ 16777215 := by have := hv.2; omega
        by_cases j0 : 0 ≤ y
        · have j1 : ¬ y ≤ 16777215 := fun h => hu ⟨j0, by omega⟩
          have j2 : decide (y ≤ 16777215) = false := decide_eq_false j1
          clear hv hu
          go_wp2
          go_ret
          exact ⟨rfl, hb⟩
        · clear hv hu
          go_wp2
          go_ret
          exact ⟨rfl, hb⟩
    · by_cases h0 : 0 ≤ x
      · have h1 : ¬ x ≤ 16777215 := fun h => hv ⟨h0, by omega⟩
        have h2 : decide (x ≤ 16777215) = false := decide_eq_false h1
        clear hv
        go_wp2
        go_ret
        exact ⟨rfl, hb⟩
      · clear hv
        go_wp2
        go_ret
        exact ⟨rfl, hb⟩
  · have hnot : (1048576 : Int) < (len0 : Int) := by omega
    go_enter Try.func19, Try.ntmps19
    go_wp2
    go_ret
    exact ⟨rfl, Below.refl _ _⟩

set_option maxRecDepth 100000 in
theorem lifted (os : Os) (started : os.Started) (H : Type) (enc : TypeId × Value → H) :
    ReturnsInHanded {} Try.checked os 19 .any (Rows.fnAddSpec.pre6 enc Try.prog Try.f19 Rows.fnAddRow.domain false) (Rows.fnAddSpec.post enc Try.prog Try.f19 false true false false) := by
  refine returnsInHanded_of_change (C := Try.checked) own started (by kernel_rfl) Try.func19
    (ChangeSpec.witness6 (enc := enc) (C := Try.checked) false ⟨#[], #[.slice none 0 0], []⟩ 8 (by kernel_rfl) (by kernel_rfl) (by kernel_rfl) (by kernel_rfl)) ?_
  intro W base args ds gs before hval0 hW hcnd _
  have hval : ∀ (j : Nat) t v, Try.f19.params[j]? = some t → args[j]? = some v → Value.okWide Try.prog W .any base t v := hval0
  have hW' := hW
  obtain ⟨p, q, hA0, hV, rfl, hfz, hnd⟩ := hW
  have hA : DataW.TrodAll enc Try.prog W 0 (fun _ => true) true Try.f19.params.toList args.toList ds p := hA0
  rw [Try.params19] at hA hval
  obtain ⟨v0, vs0, d0, ds0, p0, q0, hargs, rfl, rfl, h0, r0⟩ := trodAll_cons hA
  obtain ⟨rfl, rfl, rfl⟩ := trodAll_nil r0
  obtain rfl : args = #[v0] := by cases args; simp_all
  obtain ⟨rfl, rfl⟩ := trodVars_none hV
  obtain ⟨a0, len0, cap0, rfl⟩ := okWide_slice Try.underlying37 (hval 0 37 v0 rfl rfl)
  have k0 := h0
  have lt0 : ∀ x ∈ p0, x.block < W.heap.size := by obtain ⟨m, hm⟩ := k0; exact DataW.trod_lt m _ _ _ hm
  obtain ⟨z0, w0⟩ : ∃ zs, IsRow .u8 W a0 len0 cap0 zs := by
    obtain ⟨fuel, hf⟩ := h0
    rcases open_ints Try.underlying37 Try.underlying5 (by kernel_rfl) hf with ⟨hcs, _⟩ | ⟨x, l, c, zs, hcs, _, hl, hm, hz, _, hcell, hwz⟩
    · simp [Value.cells] at hcs
      obtain ⟨rfl, rfl, rfl⟩ := hcs
      exact ⟨[], .inl ⟨rfl, rfl, rfl, rfl⟩⟩
    · simp [Value.cells] at hcs
      obtain ⟨rfl, rfl, rfl⟩ := hcs
      exact ⟨zs, .inr ⟨_, rfl, hl, hm, by simpa using hz, hcell, hwz⟩⟩
  clear hA0 hval0
  refine (walk a0 len0 cap0 z0 W w0).mono fun e W' ⟨he, bel⟩ => ?_
  subst he
  exact ⟨_, rfl, _, _, _, [], _, [], hW', trodAll_mk1 (shut_bool Try.underlying4 _), (trodAll_cons_mk (Below.trod laidOut (by kernel_rfl) (of_decide_eq_true (by kernel_rfl)) k0 bel lt0) trodAll_mk0), rfl, bel.frame _, fun h => by cases h⟩

theorem closed : joinedFacts Try.prog 19 Try.f19 Rows.fnAddSpec Rows.fnAddRow = true := by
  delta joinedFacts
  repeat' (first | (with_reducible exact mayEnter) | (with_reducible refine liftedF _ ?_) | (with_reducible refine madeC _ ?_) | (with_reducible refine Bool.and_eq_true_iff.2 ⟨?_, ?_⟩))
  all_goals kernel_rfl

theorem over : Rows.fnAddRow.holds Try.pinned (OpenSpec.ofChange Rows.fnAddSpec) :=
  OpenClaim.holds_of_wide 19 Try.f19 rfl rfl rfl rfl rfl rfl rfl ⟨rfl, rfl, rfl, rfl, rfl⟩ rfl rfl rfl rfl rfl (by kernel_rfl) Try.func19 closed
    (of_decide_eq_true (by kernel_rfl)) (by unfold Func.isWrapper; first | (rw [if_pos (by decide +kernel)]; kernel_rfl) | (rw [if_neg (by decide +kernel)]; exact ⟨rfl, rfl⟩))
    (fun os started H enc _ => lifted os started H enc)

/-- THE STATEMENT -/
theorem proved : Rows.FnAddSaid := over
#print axioms proved
end Go.Proofs.Ytdcljbohoefpcaa.fnAdd
