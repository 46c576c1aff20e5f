/- The contract of the laws' own comparison of two lists. No condition beyond those stated. -/
import Derived.Test.YtompdebingllmaaOwn
import Derived.Deep.QuietTactic
import Derived.BigQuiet
import Derived.WalkMore
namespace Go.Proofs.Ytompdebingllmaa
open Go.RowKit Gol
set_option maxHeartbeats 400000 in
theorem sameInts_any (va vb : Value) (za zb : List Int) (W : World) (ha : Rd W va za) (hb : Rd W vb zb) (hla : za.length ≤ 1000000000000) (hlb : zb.length ≤ 1000000000000) :
    Calls Try.prog 35 #[va, vb] W fun e W' => e = .returned (.bool (eqL za zb)) ∧ Below W.heap.size W W' := by
  have Hla := Lib.hid hla; clear hla
  have Hlb := Lib.hid hlb; clear hlb
  obtain ⟨aa, ca, ea, hca⟩ : ∃ aa ca, va = .slice aa za.length ca ∧ (za.length ≠ 0 → ∃ b off, aa = some ⟨b, off, none⟩ ∧ b < W.heap.size ∧ ∀ j, j < za.length → W.cell? ⟨b, off + j, none⟩ = some (.int .i64 (za.getD j 0))) := by
    rcases ha with ⟨rfl, a, cap, rfl⟩ | ⟨b, off, cap, rfl, h1, h2⟩
    · exact ⟨a, cap, rfl, fun h => absurd rfl h⟩
    · exact ⟨_, cap, rfl, fun _ => ⟨b, off, rfl, h1, h2⟩⟩
  obtain ⟨ab, cb, eb, hcb⟩ : ∃ aa ca, vb = .slice aa zb.length ca ∧ (zb.length ≠ 0 → ∃ b off, aa = some ⟨b, off, none⟩ ∧ b < W.heap.size ∧ ∀ j, j < zb.length → W.cell? ⟨b, off + j, none⟩ = some (.int .i64 (zb.getD j 0))) := by
    rcases hb with ⟨rfl, a, cap, rfl⟩ | ⟨b, off, cap, rfl, h1, h2⟩
    · exact ⟨a, cap, rfl, fun h => absurd rfl h⟩
    · exact ⟨_, cap, rfl, fun _ => ⟨b, off, rfl, h1, h2⟩⟩
  subst ea eb
  clear ha hb
  by_cases hl : za.length = zb.length
  · by_cases h0 : za.length = 0
    · have e1 : za = [] := List.length_eq_zero_iff.1 h0
      have e2 : zb = [] := List.length_eq_zero_iff.1 (by omega)
      subst e1 e2
      clear hca hcb hl h0
      go_enter Try.func35, Try.ntmps35
      go_wp2
      refine wp_loop_rounds 1 ?_; rw [rounds_succ]
      go_wp2
      go_ret
      exact ⟨rfl, Below.refl _ _⟩
    · obtain ⟨b1, o1, rfl, hb1, hc1⟩ := hca h0
      obtain ⟨b2, o2, rfl, hb2, hc2⟩ := hcb (by omega)
      have Hc1 := Lib.hid hc1; have Hc2 := Lib.hid hc2
      clear hc1 hc2 hca hcb h0
      have hne : ((za.length : Int) == (zb.length : Int)) = true := by rw [beq_iff_eq]; omega
      have hne' : ((za.length : Int) != (zb.length : Int)) = false := by simp [hl]
      have Hl := Lib.hid hl; clear hl
      go_enter Try.func35, Try.ntmps35
      go_wp2
      go_loopw [5] (fun i wr => ∃ k : Nat, k ≤ za.length ∧ i = .int .i64 k ∧ za.take k = zb.take k ∧ Below W.heap.size W wr) (fun i _ => za.length - (intOf i).toNat)
      case atStart => exact ⟨0, by omega, rfl, rfl, Below.refl _ _⟩
      case round =>
        obtain ⟨k, hk, rfl, htake, hbel⟩ := hrel
        have Ht := Lib.hid htake; clear htake
        by_cases hlt : k < za.length
        · have hlt2 : k < zb.length := by have := Hl.out; omega
          have i1 : (k : Int) < (za.length : Int) := by omega
          have i3 : (k : Int) < 9223372036854775807 := by have := Hla.out; omega
          have i2 : (k : Int) < (zb.length : Int) := by omega
          have c1 := (hbel.cell (p := ⟨b1, o1 + k, none⟩) hb1).trans (Hc1.out k hlt)
          have c2 := (hbel.cell (p := ⟨b2, o2 + k, none⟩) hb2).trans (Hc2.out k hlt2)
          have hs : ∀ x y, za.getD k 0 = x → zb.getD k 0 = y → (x = y → za.take (k + 1) = zb.take (k + 1)) ∧ (x ≠ y → eqL za zb = false) := by
            intro x y hx hy
            rw [List.take_succ_eq_append_getElem hlt, List.take_succ_eq_append_getElem hlt2, Ht.out]
            simp only [List.getD, List.getElem?_eq_getElem hlt, List.getElem?_eq_getElem hlt2, Option.getD_some] at hx hy
            refine ⟨fun e => by rw [hx, hy, e], fun e => ?_⟩
            simp only [eqL, decide_eq_false_iff_not]
            intro h
            subst h
            exact e (hx.symm.trans hy)
          generalize hx : za.getD k 0 = x at c1
          generalize hy : zb.getD k 0 = y at c2
          obtain ⟨s1, s2⟩ := hs x y hx hy
          have S1 := Lib.hid s1; have S2 := Lib.hid s2
          clear s1 s2 hs hx hy
          by_cases he : x = y
          · have hb : (x != y) = false := by simp [he]
            have S := Lib.hid (S1.out he)
            clear S1 S2 he
            go_wp2
            go_quiet (fail)
            go_wp2
            go_roundw
            case rel => exact ⟨k + 1, by omega, by go_num, S.out, below_drewN hbel _⟩
            case measure => simp [intOf]; omega
          · have hb : (x != y) = true := by simp [he]
            have S := Lib.hid (S2.out he)
            clear S1 S2 he
            go_wp2
            go_quiet (fail)
            go_wp2
            go_ret
            refine ⟨?_, ?_⟩
            · rw [S.out]; rfl
            · exact below_drewN hbel _
        · go_wp2
          go_ret
          refine ⟨?_, hbel⟩
          have : eqL za zb = true := by
            have h := Ht.out
            have hl := Hl.out
            rw [List.take_of_length_le (by omega), List.take_of_length_le (by omega)] at h
            simp [eqL, h]
          rw [this]; rfl
  · clear hca hcb
    have hne : ((za.length : Int) == (zb.length : Int)) = false := by rw [beq_eq_false_iff_ne]; omega
    have hne' : ((za.length : Int) != (zb.length : Int)) = true := by simp; omega
    have Hl := Lib.hid hl; clear hl
    go_enter Try.func35, Try.ntmps35
    go_wp2
    go_ret
    refine ⟨?_, Below.refl _ _⟩
    have : eqL za zb = false := by
      have h := Hl.out
      simp only [eqL, decide_eq_false_iff_not]
      intro e; exact h (by rw [e])
    rw [this]; rfl
end Go.Proofs.Ytompdebingllmaa
