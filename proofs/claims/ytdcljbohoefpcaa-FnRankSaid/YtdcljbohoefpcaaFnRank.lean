/- The law FnRank returns true at every input and leaves all that was there as it was. No condition. -/
import Derived.Test.YtdcljbohoefpcaaBase
import Derived.Test.YtdcljbohoefpcaaDrawA
import Derived.Test.YtdcljbohoefpcaaRank
namespace Go.Proofs.Ytdcljbohoefpcaa.fnRank
open Go.ChangeShapes Go.WideShapes Go.ChangeAt Go.RowKit
open Go.ChangeMaps (open_string shut_string)
set_option linter.unusedVariables false

open Gol in
set_option maxHeartbeats 2000000 in
theorem walk (a0 : Option Addr) (len0 cap0 : Nat) (z0 : List Int) (w : World) (w0 : IsRow .u8 w a0 len0 cap0 z0) :
    Calls Try.prog 18 #[.slice a0 len0 cap0] w fun e w' => e = .returned (.bool true) ∧ Below w.heap.size w w' := by
  by_cases hbig : len0 ≤ 1048576
  · have hnot : ¬ (1048576 : Int) < (len0 : Int) := by omega
    have W0 := Lib.hid w0
    clear w0 hbig
    go_enter Try.func18, Try.ntmps18
    go_wp2_with fail
    refine (DrawWordRank_any _ _ _ _ _ W0.out).mono ?_
    rintro e w1 ⟨x, hx, rfl, hb⟩
    clear hx hnot
    by_cases hv : IsW x
    · obtain ⟨n, rfl, hn⟩ := hv.of
      have h0 : (0 : Int) ≤ n := by omega
      have h1 : (n : Int) ≤ 16777215 := by omega
      have Hv := Lib.hid hv
      have Hn := Lib.hid hn
      clear hv hn
      obtain ⟨q, hq, hq2, HI, HS⟩ := rank_all n Hv.out
      have Hq := Lib.hid hq
      clear hq
      by_cases hz : n = 0
      · subst hz
        go_wp2_with fail
        refine (HI.out _).mono ?_
        rintro e w2 ⟨rfl, hb2⟩
        go_wp2_with fail
        refine (HS.out _).mono ?_
        rintro e w3 ⟨rfl, hb3⟩
        have b0 : bits .and .i64 0 0 = 0 := i64_and 0 0 (by decide) (by decide)
        have d0 : decide (0 ≤ (q : Int)) = true := decide_eq_true (by omega)
        go_wp2
        go_ret
        have q2 := hb.trans (hb2.mono hb.size)
        exact ⟨rfl, q2.trans (hb3.mono q2.size)⟩
      · obtain ⟨l, l1, l2, hl, hnext⟩ := rank_next n Hn.out hz
        have hnz : ((n : Int) == 0) = false := by rw [beq_eq_false_iff_ne]; omega
        go_wp2_with fail
        refine (HI.out _).mono ?_
        rintro e w2 ⟨rfl, hb2⟩
        go_wp2_with fail
        refine (HS.out _).mono ?_
        rintro e w3 ⟨rfl, hb3⟩
        by_cases hup : n + l < 16777216
        · obtain ⟨X, Y, r, u, e1, e2, e3, e4, hu, hnx, x1, y1⟩ := hnext hup
          have x2 : (X : Int) ≤ 16777215 := by omega
          have y2 : (Y : Int) ≤ 16777215 := by omega
          have h3 : decide ((16777215 : Int) < (n : Int) + (l : Int)) = false := decide_eq_false (by omega)
          have hwu := Lib.hid (IsW.mk u hu)
          obtain ⟨q2, hq2', hq3, HI2, _⟩ := rank_all u hwu.out
          have hqq : ((q2 : Int) == (q : Int) + 1) = true := by rw [beq_iff_eq, hq2', hnx, Hq.out]; simp
          have h4 : (l : Int) ≤ (n : Int) := by omega
          have h5 : 1 ≤ (l : Int) := by omega
          clear hnext hup hu hnx hq2' hz x1 y1
          go_wp2_with fail
          refine (HI2.out _).mono ?_
          rintro e w4 ⟨rfl, hb4⟩
          go_wp2
          go_ret
          have q2 := hb.trans (hb2.mono hb.size)
          have q3 := q2.trans (hb3.mono q2.size)
          exact ⟨rfl, q3.trans (hb4.mono q3.size)⟩
        · have h3 : decide ((16777215 : Int) < (n : Int) + (l : Int)) = true := decide_eq_true (by omega)
          have d0 : decide (0 ≤ (q : Int)) = true := decide_eq_true (by omega)
          have h4 : (l : Int) ≤ (n : Int) := by omega
          clear hnext hz hup
          go_wp2
          go_ret
          have q2 := hb.trans (hb2.mono hb.size)
          exact ⟨rfl, q2.trans (hb3.mono q2.size)⟩
    · by_cases h0 : 0 ≤ x
      · have h1 : ¬ x ≤ 16777215 := fun h => hv ⟨h0, by omega⟩
        have h2 : decide (x ≤ 16777215) = false := decide_eq_false h1
        have Hv := Lib.hid hv
        clear hv
        go_wp2
        go_ret
        exact ⟨rfl, hb⟩
      · have Hv := Lib.hid hv
        clear hv
        go_wp2
        go_ret
        exact ⟨rfl, hb⟩
  · have hnot : (1048576 : Int) < (len0 : Int) := by omega
    go_enter Try.func18, Try.ntmps18
    go_wp2
    go_ret
    exact ⟨rfl, Below.refl _ _⟩

set_option maxRecDepth 100000 in
theorem lifted (os : Os) (started : os.Started) (H : Type) (enc : TypeId × Value → H) :
    ReturnsInHanded {} Try.checked os 18 .any (Rows.fnRankSpec.pre6 enc Try.prog Try.f18 Rows.fnRankRow.domain false) (Rows.fnRankSpec.post enc Try.prog Try.f18 false true false false) := by
  refine returnsInHanded_of_change (C := Try.checked) own started (by kernel_rfl) Try.func18
    (ChangeSpec.witness6 (enc := enc) (C := Try.checked) false ⟨#[], #[.slice none 0 0], []⟩ 8 (by kernel_rfl) (by kernel_rfl) (by kernel_rfl) (by kernel_rfl)) ?_
  intro W base args ds gs before hval0 hW hcnd _
  have hval : ∀ (j : Nat) t v, Try.f18.params[j]? = some t → args[j]? = some v → Value.okWide Try.prog W .any base t v := hval0
  have hW' := hW
  obtain ⟨p, q, hA0, hV, rfl, hfz, hnd⟩ := hW
  have hA : DataW.TrodAll enc Try.prog W 0 (fun _ => true) true Try.f18.params.toList args.toList ds p := hA0
  rw [Try.params18] at hA hval
  obtain ⟨v0, vs0, d0, ds0, p0, q0, hargs, rfl, rfl, h0, r0⟩ := trodAll_cons hA
  obtain ⟨rfl, rfl, rfl⟩ := trodAll_nil r0
  obtain rfl : args = #[v0] := by cases args; simp_all
  obtain ⟨rfl, rfl⟩ := trodVars_none hV
  obtain ⟨a0, len0, cap0, rfl⟩ := okWide_slice Try.underlying37 (hval 0 37 v0 rfl rfl)
  have k0 := h0
  have lt0 : ∀ x ∈ p0, x.block < W.heap.size := by obtain ⟨m, hm⟩ := k0; exact DataW.trod_lt m _ _ _ hm
  obtain ⟨z0, w0⟩ : ∃ zs, IsRow .u8 W a0 len0 cap0 zs := by
    obtain ⟨fuel, hf⟩ := h0
    rcases open_ints Try.underlying37 Try.underlying5 (by kernel_rfl) hf with ⟨hcs, _⟩ | ⟨x, l, c, zs, hcs, _, hl, hm, hz, _, hcell, hwz⟩
    · simp [Value.cells] at hcs
      obtain ⟨rfl, rfl, rfl⟩ := hcs
      exact ⟨[], .inl ⟨rfl, rfl, rfl, rfl⟩⟩
    · simp [Value.cells] at hcs
      obtain ⟨rfl, rfl, rfl⟩ := hcs
      exact ⟨zs, .inr ⟨_, rfl, hl, hm, by simpa using hz, hcell, hwz⟩⟩
  clear hA0 hval0
  refine (walk a0 len0 cap0 z0 W w0).mono fun e W' ⟨he, bel⟩ => ?_
  subst he
  exact ⟨_, rfl, _, _, _, [], _, [], hW', trodAll_mk1 (shut_bool Try.underlying4 _), (trodAll_cons_mk (Below.trod laidOut (by kernel_rfl) (of_decide_eq_true (by kernel_rfl)) k0 bel lt0) trodAll_mk0), rfl, bel.frame _, fun h => by cases h⟩

theorem closed : joinedFacts Try.prog 18 Try.f18 Rows.fnRankSpec Rows.fnRankRow = true := by
  delta joinedFacts
  repeat' (first | (with_reducible exact mayEnter) | (with_reducible refine liftedF _ ?_) | (with_reducible refine madeC _ ?_) | (with_reducible refine Bool.and_eq_true_iff.2 ⟨?_, ?_⟩))
  all_goals kernel_rfl

theorem over : Rows.fnRankRow.holds Try.pinned (OpenSpec.ofChange Rows.fnRankSpec) :=
  OpenClaim.holds_of_wide 18 Try.f18 rfl rfl rfl rfl rfl rfl rfl ⟨rfl, rfl, rfl, rfl, rfl⟩ rfl rfl rfl rfl rfl (by kernel_rfl) Try.func18 closed
    (of_decide_eq_true (by kernel_rfl)) (by unfold Func.isWrapper; first | (rw [if_pos (by decide +kernel)]; kernel_rfl) | (rw [if_neg (by decide +kernel)]; exact ⟨rfl, rfl⟩))
    (fun os started H enc _ => lifted os started H enc)

/-- THE STATEMENT -/
theorem proved : Rows.FnRankSaid := over
#print axioms proved
end Go.Proofs.Ytdcljbohoefpcaa.fnRank
