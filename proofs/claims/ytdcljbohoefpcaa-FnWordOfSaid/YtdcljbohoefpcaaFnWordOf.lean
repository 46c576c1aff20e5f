/- The law FnWordOf returns true at every input and leaves all that was there as it was. No condition. -/
import Derived.Test.YtdcljbohoefpcaaBase
import Derived.Test.YtdcljbohoefpcaaDrawP
import Derived.Test.YtdcljbohoefpcaaWordOf
import Derived.Test.YtdcljbohoefpcaaWOf
namespace Go.Proofs.Ytdcljbohoefpcaa.fnWordOf
open Go.ChangeShapes Go.WideShapes Go.ChangeAt Go.RowKit
open Go.ChangeMaps (open_string shut_string)
set_option linter.unusedVariables false

open Gol in
set_option maxHeartbeats 2000000 in
theorem walk (a0 : Option Addr) (len0 cap0 : Nat) (z0 : List Int) (w : World) (w0 : IsRow .u8 w a0 len0 cap0 z0) :
    Calls Try.prog 16 #[.slice a0 len0 cap0] w fun e w' => e = .returned (.bool true) ∧ Below w.heap.size w w' := by
  by_cases hbig : len0 ≤ 1048576
  · have hnot : ¬ (1048576 : Int) < (len0 : Int) := by omega
    have W0 := Lib.hid w0
    clear w0 hbig
    go_enter Try.func16, Try.ntmps16
    go_wp2_with fail
    refine (DrawWordOf_any _ _ _ _ _ W0.out).mono ?_
    rintro e w1 ⟨v, zs, rfl, hr, h12, hb⟩
    clear hnot
    have H12 := Lib.hid h12
    have HL : Hid (zs.length ≤ 1048576) := Lib.hid (Nat.le_trans h12 (by decide))
    clear h12
    have H1 := Lib.hid (fun W hr => implOf v zs W hr HL.out)
    have H2 := Lib.hid (fun W hr => specOf v zs W hr HL.out)
    cases ho : ofL 0 zs with
    | none =>
      rw [ho] at H1 H2
      unfold ofV at H1 H2
      clear ho
      go_wp2_with fail
      refine (H1.out _ hr).mono ?_
      rintro e w2 ⟨rfl, rfl⟩
      go_wp2_with fail
      refine (H2.out _ hr).mono ?_
      rintro e w2 ⟨rfl, rfl⟩
      go_wp2
      go_ret
      exact ⟨rfl, hb⟩
    | some x =>
      have hx24 := ofL_lt zs 0 x (by decide) ho
      have hpc : pc x = zs.length := by
        have := ofL_pc zs 0 x ho
        have p0 : pc 0 = 0 := by decide
        omega
      have HW := Lib.hid (fun W => implWeight_natA x hx24 W)
      rw [hpc] at HW
      have HRv := Lib.hid (fun u W (hu : Rd W u zs.reverse) => by
        have h := implOf u zs.reverse W hu (by rw [List.length_reverse]; exact HL.out)
        rw [ofL_reverse, ho] at h
        exact h)
      rw [ho] at H1 H2
      unfold ofV at H1 H2 HRv
      clear ho hx24 hpc
      obtain ⟨a1, cap1, rfl, hcs⟩ := rd_open hr
      have Hcs := Lib.hid hcs
      have h12 : (zs.length : Int) ≤ 12 := by have := H12.out; omega
      clear hcs
      go_wp2_with fail
      refine (H1.out _ hr).mono ?_
      rintro e w2 ⟨rfl, rfl⟩
      go_wp2_with fail
      refine (H2.out _ hr).mono ?_
      rintro e w2 ⟨rfl, rfl⟩
      go_wp2
      go_loopw [8, 9] (fun u i wr => ∃ j : Nat, j ≤ zs.length ∧ i = .int .i64 ((j : Int) - 1) ∧ Owns wr w1.heap.size u ((zs.drop j).reverse) ∧ Below w1.heap.size w1 wr) (fun _ i _ => (intOf i + 1).toNat)
      case atStart => exact ⟨zs.length, Nat.le_refl _, rfl, by rw [List.drop_of_length_le (Nat.le_refl _)]; exact Owns.made _ _ (Nat.le_refl _), (Below.refl _ _).alloc (Nat.le_refl _) _⟩
      case round =>
        obtain ⟨j, hj, rfl, hown, hbr⟩ := hrel
        cases j with
        | zero =>
          have hown0 : Owns wr w1.heap.size u8 zs.reverse := by simpa using hown
          have Hown0 := Lib.hid hown0
          clear hown hown0
          go_wp2_with fail
          refine (HRv.out _ _ Hown0.out.rd).mono ?_
          rintro e w2 ⟨rfl, rfl⟩
          go_wp2_with fail
          refine (HW.out _).mono ?_
          rintro e w2 ⟨rfl, rfl⟩
          go_wp2
          go_ret
          exact ⟨rfl, hb.trans (hbr.mono hb.size)⟩
        | succ i =>
          obtain ⟨b, off, rfl, hblt, hcell⟩ := Hcs.out i (by omega)
          have hc := (hbr.cell (p := ⟨b, off + i, none⟩) hblt).trans hcell
          have Hs := Lib.hid (rev_step zs i (by omega))
          have hlen : Hid (((zs.drop (i + 1)).reverse).length ≤ 1000000) := Lib.hid (by rw [List.length_reverse, List.length_drop]; have := H12.out; omega)
          have hi : (i : Int) < (zs.length : Int) := by omega
          have hi0 : (0 : Int) ≤ (i : Int) := by omega
          have e1 : ((i + 1 : Nat) : Int) - 1 = (i : Int) := by omega
          rw [e1]
          clear hcell e1
          generalize zs.getD i 0 = y at *
          go_wp2_with (first | (at_builtin; refine wpList_append_int rfl _ _ rfl w1 w1.heap.size _ _ y (by rfl) (by rfl) hown hbr (Nat.le_refl _) hlen.out ?_; intro v1 w3 hown1 hbel1) | go_in)
          go_roundw
          case rel => exact ⟨i, by omega, by go_num, by rw [← Hs.out]; exact hown1, hbel1⟩
          case measure => simp [intOf]
  · have hnot : (1048576 : Int) < (len0 : Int) := by omega
    go_enter Try.func16, Try.ntmps16
    go_wp2
    go_ret
    exact ⟨rfl, Below.refl _ _⟩

set_option maxRecDepth 100000 in
theorem lifted (os : Os) (started : os.Started) (H : Type) (enc : TypeId × Value → H) :
    ReturnsInHanded {} Try.checked os 16 .any (Rows.fnWordOfSpec.pre6 enc Try.prog Try.f16 Rows.fnWordOfRow.domain false) (Rows.fnWordOfSpec.post enc Try.prog Try.f16 false true false false) := by
  refine returnsInHanded_of_change (C := Try.checked) own started (by kernel_rfl) Try.func16
    (ChangeSpec.witness6 (enc := enc) (C := Try.checked) false ⟨#[], #[.slice none 0 0], []⟩ 8 (by kernel_rfl) (by kernel_rfl) (by kernel_rfl) (by kernel_rfl)) ?_
  intro W base args ds gs before hval0 hW hcnd _
  have hval : ∀ (j : Nat) t v, Try.f16.params[j]? = some t → args[j]? = some v → Value.okWide Try.prog W .any base t v := hval0
  have hW' := hW
  obtain ⟨p, q, hA0, hV, rfl, hfz, hnd⟩ := hW
  have hA : DataW.TrodAll enc Try.prog W 0 (fun _ => true) true Try.f16.params.toList args.toList ds p := hA0
  rw [Try.params16] at hA hval
  obtain ⟨v0, vs0, d0, ds0, p0, q0, hargs, rfl, rfl, h0, r0⟩ := trodAll_cons hA
  obtain ⟨rfl, rfl, rfl⟩ := trodAll_nil r0
  obtain rfl : args = #[v0] := by cases args; simp_all
  obtain ⟨rfl, rfl⟩ := trodVars_none hV
  obtain ⟨a0, len0, cap0, rfl⟩ := okWide_slice Try.underlying37 (hval 0 37 v0 rfl rfl)
  have k0 := h0
  have lt0 : ∀ x ∈ p0, x.block < W.heap.size := by obtain ⟨m, hm⟩ := k0; exact DataW.trod_lt m _ _ _ hm
  obtain ⟨z0, w0⟩ : ∃ zs, IsRow .u8 W a0 len0 cap0 zs := by
    obtain ⟨fuel, hf⟩ := h0
    rcases open_ints Try.underlying37 Try.underlying5 (by kernel_rfl) hf with ⟨hcs, _⟩ | ⟨x, l, c, zs, hcs, _, hl, hm, hz, _, hcell, hwz⟩
    · simp [Value.cells] at hcs
      obtain ⟨rfl, rfl, rfl⟩ := hcs
      exact ⟨[], .inl ⟨rfl, rfl, rfl, rfl⟩⟩
    · simp [Value.cells] at hcs
      obtain ⟨rfl, rfl, rfl⟩ := hcs
      exact ⟨zs, .inr ⟨_, rfl, hl, hm, by simpa using hz, hcell, hwz⟩⟩
  clear hA0 hval0
  refine (walk a0 len0 cap0 z0 W w0).mono fun e W' ⟨he, bel⟩ => ?_
  subst he
  exact ⟨_, rfl, _, _, _, [], _, [], hW', trodAll_mk1 (shut_bool Try.underlying4 _), (trodAll_cons_mk (Below.trod laidOut (by kernel_rfl) (of_decide_eq_true (by kernel_rfl)) k0 bel lt0) trodAll_mk0), rfl, bel.frame _, fun h => by cases h⟩

theorem closed : joinedFacts Try.prog 16 Try.f16 Rows.fnWordOfSpec Rows.fnWordOfRow = true := by
  delta joinedFacts
  repeat' (first | (with_reducible exact mayEnter) | (with_reducible refine liftedF _ ?_) | (with_reducible refine madeC _ ?_) | (with_reducible refine Bool.and_eq_true_iff.2 ⟨?_, ?_⟩))
  all_goals kernel_rfl

theorem over : Rows.fnWordOfRow.holds Try.pinned (OpenSpec.ofChange Rows.fnWordOfSpec) :=
  OpenClaim.holds_of_wide 16 Try.f16 rfl rfl rfl rfl rfl rfl rfl ⟨rfl, rfl, rfl, rfl, rfl⟩ rfl rfl rfl rfl rfl (by kernel_rfl) Try.func16 closed
    (of_decide_eq_true (by kernel_rfl)) (by unfold Func.isWrapper; first | (rw [if_pos (by decide +kernel)]; kernel_rfl) | (rw [if_neg (by decide +kernel)]; exact ⟨rfl, rfl⟩))
    (fun os started H enc _ => lifted os started H enc)

/-- THE STATEMENT -/
theorem proved : Rows.FnWordOfSaid := over
#print axioms proved
end Go.Proofs.Ytdcljbohoefpcaa.fnWordOf
