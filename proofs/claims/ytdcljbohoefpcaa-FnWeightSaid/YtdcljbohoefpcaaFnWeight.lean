/- The law FnWeight returns true at every input and leaves all that was there as it was. No condition. -/
import Derived.Test.YtdcljbohoefpcaaBase
import Derived.Test.YtdcljbohoefpcaaDrawA
import Derived.Test.YtdcljbohoefpcaaWords2
namespace Go.Proofs.Ytdcljbohoefpcaa.fnWeight
open Go.ChangeShapes Go.WideShapes Go.ChangeAt Go.RowKit
open Go.ChangeMaps (open_string shut_string)
set_option linter.unusedVariables false

open Gol in
set_option maxHeartbeats 2000000 in
theorem walk (a0 : Option Addr) (len0 cap0 : Nat) (z0 : List Int) (w : World) (w0 : IsRow .u8 w a0 len0 cap0 z0) :
    Calls Try.prog 20 #[.slice a0 len0 cap0] w fun e w' => e = .returned (.bool true) ∧ Below w.heap.size w w' := by
  by_cases hbig : len0 ≤ 1048576
  · have hnot : ¬ (1048576 : Int) < (len0 : Int) := by omega
    have W0 := Lib.hid w0
    clear w0 hbig
    go_enter Try.func20, Try.ntmps20
    go_wp2_with fail
    refine (DrawWordWeight_any _ _ _ _ _ W0.out).mono ?_
    rintro e w1 ⟨x, hx, rfl, hb⟩
    clear hx hnot
    by_cases hv : IsW x
    · obtain ⟨n, rfl, hn⟩ := hv.of
      have h0 : (0 : Int) ≤ n := by omega
      have h1 : (n : Int) ≤ 16777215 := by omega
      have Hv := Lib.hid hv
      have Hn := Lib.hid hn
      clear hv hn
      obtain ⟨o, b, ho, hp⟩ := not_facts n Hn.out
      have o0 : (0 : Int) ≤ (o : Int) := ho.1
      have o1 : (o : Int) ≤ 16777215 := by have := ho.2; omega
      have Ho := Lib.hid ho
      have q1 : pc n ≤ 24 := pcN_le 24 n
      have q4 : pc o ≤ 24 := pcN_le 24 _
      have hq : ((pc o : Int) == 24 - (pc n : Int)) = true := by rw [beq_iff_eq]; omega
      clear ho
      obtain ⟨zs, HP, HL⟩ : ∃ zs : List Int, Hid (∀ W, Calls Try.prog 34 #[.int .i64 n] W (RetOwns2 W.heap.size zs true W)) ∧ zs.length = pc n := by
        refine ⟨intsOf (places n), ?_, by rw [intsOf_length]; exact plN_length 24 n⟩
        have h : ∀ W, Calls Try.prog 34 #[.int .i64 n] W (RetOwns2 W.heap.size (intsOf (places n)) true W) := fun W => implPlaces_yes _ Hv.out W
        exact h
      have hz : ((zs.length : Int) == (pc n : Int)) = true := by rw [beq_iff_eq]; omega
      clear HL
      clear hp
      have Hu := Hv
      have Hk := Hv
      go_wp2_with (first | (go_at_call 60; refine (weight_any _ (by first | exact Hv.out | exact Hu.out | exact Ho.out | exact Hk.out) _).mono ?_; rintro e w2 ⟨rfl, rfl⟩; simp only [Int.toNat_natCast]) | (go_at_call 59; refine (l1Weight_any _ Hv.out _).mono ?_; rintro e w2 ⟨rfl, rfl⟩; simp only [Int.toNat_natCast]) | (go_at_call 34; refine (HP.out _).mono ?_; rintro e w3 ⟨a3, c3, rfl, ho3, hb3⟩) | go_in)
      go_ret
      exact ⟨rfl, hb.trans (hb3.mono hb.size)⟩
    · by_cases h0 : 0 ≤ x
      · have h1 : ¬ x ≤ 16777215 := fun h => hv ⟨h0, by omega⟩
        have h2 : decide (x ≤ 16777215) = false := decide_eq_false h1
        have Hv := Lib.hid hv
        clear hv
        go_wp2
        go_ret
        exact ⟨rfl, hb⟩
      · have Hv := Lib.hid hv
        clear hv
        go_wp2
        go_ret
        exact ⟨rfl, hb⟩
  · have hnot : (1048576 : Int) < (len0 : Int) := by omega
    go_enter Try.func20, Try.ntmps20
    go_wp2
    go_ret
    exact ⟨rfl, Below.refl _ _⟩

set_option maxRecDepth 100000 in
theorem lifted (os : Os) (started : os.Started) (H : Type) (enc : TypeId × Value → H) :
    ReturnsInHanded {} Try.checked os 20 .any (Rows.fnWeightSpec.pre6 enc Try.prog Try.f20 Rows.fnWeightRow.domain false) (Rows.fnWeightSpec.post enc Try.prog Try.f20 false true false false) := by
  refine returnsInHanded_of_change (C := Try.checked) own started (by kernel_rfl) Try.func20
    (ChangeSpec.witness6 (enc := enc) (C := Try.checked) false ⟨#[], #[.slice none 0 0], []⟩ 8 (by kernel_rfl) (by kernel_rfl) (by kernel_rfl) (by kernel_rfl)) ?_
  intro W base args ds gs before hval0 hW hcnd _
  have hval : ∀ (j : Nat) t v, Try.f20.params[j]? = some t → args[j]? = some v → Value.okWide Try.prog W .any base t v := hval0
  have hW' := hW
  obtain ⟨p, q, hA0, hV, rfl, hfz, hnd⟩ := hW
  have hA : DataW.TrodAll enc Try.prog W 0 (fun _ => true) true Try.f20.params.toList args.toList ds p := hA0
  rw [Try.params20] at hA hval
  obtain ⟨v0, vs0, d0, ds0, p0, q0, hargs, rfl, rfl, h0, r0⟩ := trodAll_cons hA
  obtain ⟨rfl, rfl, rfl⟩ := trodAll_nil r0
  obtain rfl : args = #[v0] := by cases args; simp_all
  obtain ⟨rfl, rfl⟩ := trodVars_none hV
  obtain ⟨a0, len0, cap0, rfl⟩ := okWide_slice Try.underlying37 (hval 0 37 v0 rfl rfl)
  have k0 := h0
  have lt0 : ∀ x ∈ p0, x.block < W.heap.size := by obtain ⟨m, hm⟩ := k0; exact DataW.trod_lt m _ _ _ hm
  obtain ⟨z0, w0⟩ : ∃ zs, IsRow .u8 W a0 len0 cap0 zs := by
    obtain ⟨fuel, hf⟩ := h0
    rcases open_ints Try.underlying37 Try.underlying5 (by kernel_rfl) hf with ⟨hcs, _⟩ | ⟨x, l, c, zs, hcs, _, hl, hm, hz, _, hcell, hwz⟩
    · simp [Value.cells] at hcs
      obtain ⟨rfl, rfl, rfl⟩ := hcs
      exact ⟨[], .inl ⟨rfl, rfl, rfl, rfl⟩⟩
    · simp [Value.cells] at hcs
      obtain ⟨rfl, rfl, rfl⟩ := hcs
      exact ⟨zs, .inr ⟨_, rfl, hl, hm, by simpa using hz, hcell, hwz⟩⟩
  clear hA0 hval0
  refine (walk a0 len0 cap0 z0 W w0).mono fun e W' ⟨he, bel⟩ => ?_
  subst he
  exact ⟨_, rfl, _, _, _, [], _, [], hW', trodAll_mk1 (shut_bool Try.underlying4 _), (trodAll_cons_mk (Below.trod laidOut (by kernel_rfl) (of_decide_eq_true (by kernel_rfl)) k0 bel lt0) trodAll_mk0), rfl, bel.frame _, fun h => by cases h⟩

theorem closed : joinedFacts Try.prog 20 Try.f20 Rows.fnWeightSpec Rows.fnWeightRow = true := by
  delta joinedFacts
  repeat' (first | (with_reducible exact mayEnter) | (with_reducible refine liftedF _ ?_) | (with_reducible refine madeC _ ?_) | (with_reducible refine Bool.and_eq_true_iff.2 ⟨?_, ?_⟩))
  all_goals kernel_rfl

theorem over : Rows.fnWeightRow.holds Try.pinned (OpenSpec.ofChange Rows.fnWeightSpec) :=
  OpenClaim.holds_of_wide 20 Try.f20 rfl rfl rfl rfl rfl rfl rfl ⟨rfl, rfl, rfl, rfl, rfl⟩ rfl rfl rfl rfl rfl (by kernel_rfl) Try.func20 closed
    (of_decide_eq_true (by kernel_rfl)) (by unfold Func.isWrapper; first | (rw [if_pos (by decide +kernel)]; kernel_rfl) | (rw [if_neg (by decide +kernel)]; exact ⟨rfl, rfl⟩))
    (fun os started H enc _ => lifted os started H enc)

/-- THE STATEMENT -/
theorem proved : Rows.FnWeightSaid := over
#print axioms proved
end Go.Proofs.Ytdcljbohoefpcaa.fnWeight
