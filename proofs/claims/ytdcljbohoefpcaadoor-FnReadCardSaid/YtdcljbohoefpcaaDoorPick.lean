/- Contracts of the reader of a code: opening it, and one number picked. No condition beyond those stated. -/
import Derived.Test.YtdcljbohoefpcaaDoorOwn
import Derived.Deep.QuietTactic
import Derived.BigQuiet
import Derived.WalkMore
namespace Go.Proofs.YtdcljbohoefpcaaDoor
open Go.RowKit Gol
/-- The reader in block R: its code, a slice of bytes below R; its count k. -/
structure Src (w : World) (R : Nat) (a : Option Addr) (len cap k : Nat) : Prop where
  c0 : w.cell? ⟨R, 0, none⟩ = some (.slice a len cap)
  c1 : w.cell? ⟨R, 1, none⟩ = some (.int .i64 k)
  f1 : w.frozen? ⟨R, 1, none⟩ = false
  lt : R < w.heap.size
  le : len ≤ 2000
  code : len = 0 ∨ ∃ b off, a = some ⟨b, off, none⟩ ∧ b < R ∧ ∀ j, j < len → ∃ x : Nat, x < 256 ∧ w.cell? ⟨b, off + j, none⟩ = some (.int .u8 x)
theorem Src.stored {w : World} {R : Nat} {a : Option Addr} {len cap k : Nat} (h : Src w R a len cap k) :
    Src (w.setCell ⟨R, 1, none⟩ (.int .i64 ((k : Int) + 1))) R a len cap (k + 1) ∧ w.grownBy (w.setCell ⟨R, 1, none⟩ (.int .i64 ((k : Int) + 1))) (some R) := by
  have hs : (w.setCell ⟨R, 1, none⟩ (.int .i64 ((k : Int) + 1))).heap.size = w.heap.size := by simp
  refine ⟨⟨?_, ?_, ?_, ?_, h.le, ?_⟩, ⟨rfl, rfl, rfl, by rw [hs]; exact Nat.le_refl _, fun i hi hne => ?_⟩⟩
  · rw [World.cell?_setCell_other _ _ _ _ (by simp)]; exact h.c0
  · rw [World.cell?_setCell_same _ _ _ h.c1]; rfl
  · rw [World.frozen?_setCell]; exact h.f1
  · rw [hs]; exact h.lt
  · rcases h.code with e | ⟨b, off, e, hb, hc⟩
    · exact .inl e
    · refine .inr ⟨b, off, e, hb, fun j hj => ?_⟩
      obtain ⟨x, hx, hcx⟩ := hc j hj
      refine ⟨x, hx, ?_⟩
      rw [World.cell?_setCell_other _ _ _ _ (fun e => by have := congrArg Addr.block e; simp at this; omega)]; exact hcx
  · exact Below.heap_setCell w _ _ i (fun e => hne (by rw [e]))
theorem Src.drewN {w : World} {R : Nat} {a : Option Addr} {len cap k : Nat} (h : Src w R a len cap k) (n : Nat) : Src (w.drewN n) R a len cap k := ⟨h.c0, h.c1, h.f1, h.lt, h.le, h.code⟩
theorem grownBy_drewN {w w' : World} {r : Option Nat} (h : w.grownBy w' r) (n : Nat) : w.grownBy (w'.drewN n) r := ⟨h.os, h.tape, h.output, h.size, h.block⟩
def Picked (R : Nat) (a : Option Addr) (len cap k : Nat) (n : Int) (w : World) (e : Ending) (w' : World) : Prop :=
  ∃ x : Int, 0 ≤ x ∧ x < n ∧ e = .returned (.int .i64 x) ∧ Src w' R a len cap (k + 1) ∧ w.grownBy w' (some R)
theorem wrap_nat (a : Nat) (h : a < 1000000000) : wrap64 (a : Int) = (a : Int) := IntWalk.wrap64_in _ (by omega)
theorem mix_nonneg (x y k len : Nat) (hx : x < 256) (hy : y < 256) (hk : k ≤ 1000000) :
    0 ≤ bits .xor .i64 (wrap64 ((x : Int) * 131 + (y : Int) * 1117 + (k : Int) * 29 + wrap64 (wrap64 ((k : Int) / (len : Int)) * 53)))
      (wrap64 ((wrap64 ((x : Int) * 131 + (y : Int) * 1117 + (k : Int) * 29 + wrap64 (wrap64 ((k : Int) / (len : Int)) * 53))).tdiv 64)) := by
  have e1 : (k : Int) / (len : Int) = ((k / len : Nat) : Int) := by simp
  have hq := Nat.div_le_self k len
  rw [e1]
  generalize k / len = q at *
  rw [wrap_nat q (by omega), show ((q : Int) * 53) = ((q * 53 : Nat) : Int) by simp, wrap_nat (q * 53) (by omega),
    show ((x : Int) * 131 + (y : Int) * 1117 + (k : Int) * 29 + ((q * 53 : Nat) : Int)) = ((x * 131 + y * 1117 + k * 29 + q * 53 : Nat) : Int) by simp, wrap_nat _ (by omega)]
  generalize hE : x * 131 + y * 1117 + k * 29 + q * 53 = E
  have hE2 : E < 1000000000 := by omega
  rw [show ((E : Int).tdiv 64) = ((E / 64 : Nat) : Int) from IntWalk.up_tdiv rfl rfl, wrap_nat _ (by omega), i64_xor _ _ (by omega) (by omega)]
  exact Int.natCast_nonneg _
theorem tmod_in (x n : Int) (h : 0 ≤ x) (n0 : 1 ≤ n) : 0 ≤ x.tmod n ∧ x.tmod n < n := by
  rw [IntWalk.rem_in x n h]
  exact ⟨Int.emod_nonneg _ (by omega), Int.emod_lt_of_pos _ (by omega)⟩
set_option maxHeartbeats 1000000 in
theorem pick_any (R : Nat) (a : Option Addr) (len cap k : Nat) (n : Int) (W : World) (h : Src W R a len cap k) (hk : k ≤ 1000000) (n0 : 1 ≤ n) (n1 : n ≤ 4096) :
    Calls Tryd.prog 19 #[.pointer (some ⟨R, 0, none⟩), .int .i64 n] W (Picked R a len cap k n W) := by
  have c0 := h.c0
  have c1 := h.c1
  have f1 := h.f1
  have hle := h.le
  have hn : ¬ n < 1 := by omega
  have hcode := Lib.hid h.code
  have H := Lib.hid h
  clear h
  by_cases hl : len = 0
  · subst hl
    go_enter Tryd.func19, Tryd.ntmps19
    go_wp2
    go_ret
    exact ⟨0, by omega, by omega, rfl, H.out.stored.1, H.out.stored.2⟩
  · obtain ⟨b, off, rfl, hb, hc⟩ := hcode.out.resolve_left hl
    have HC := Lib.hid hc
    have hl0 : ((len : Int) == 0) = false := by rw [beq_eq_false_iff_ne]; omega
    have hl1 : 1 ≤ (len : Int) := by omega
    clear hl hc hcode
    by_cases hlt : k < len
    · obtain ⟨x, hx, hcx⟩ := HC.out k hlt
      have i1 : (k : Int) < (len : Int) := by omega
      have hx2 : (x : Int) < 256 := by omega
      go_enter Tryd.func19, Tryd.ntmps19
      go_wp2
      go_ret
      have hn2 : 1 ≤ n := by omega
      exact ⟨_, Int.emod_nonneg _ (by omega), Int.emod_lt_of_pos _ (by omega), rfl, H.out.stored.1, H.out.stored.2⟩
    · obtain ⟨x, hx, hcx⟩ := HC.out (k % len) (Nat.mod_lt _ (by omega))
      obtain ⟨y, hy, hcy⟩ := HC.out ((k * 7 + 3) % len) (Nat.mod_lt _ (by omega))
      have i1 : ¬ (k : Int) < (len : Int) := by omega
      have i2 : (k : Int) % (len : Int) < (len : Int) := Int.emod_lt_of_pos _ (by omega)
      have i2' : 0 ≤ (k : Int) % (len : Int) := Int.emod_nonneg _ (by omega)
      have i3 : ((k : Int) * 7 + 3) % (len : Int) < (len : Int) := Int.emod_lt_of_pos _ (by omega)
      have i3' : 0 ≤ ((k : Int) * 7 + 3) % (len : Int) := Int.emod_nonneg _ (by omega)
      have hx2 : (x : Int) < 256 := by omega
      have hy2 : (y : Int) < 256 := by omega
      go_enter Tryd.func19, Tryd.ntmps19
      go_wp2
      go_quiet (fail)
      go_wp2
      have hm := mix_nonneg x y k len hx hy hk
      go_ret
      exact ⟨_, (tmod_in _ n hm (by omega)).1, (tmod_in _ n hm (by omega)).2, rfl, H.out.stored.1.drewN _, grownBy_drewN H.out.stored.2 _⟩
end Go.Proofs.YtdcljbohoefpcaaDoor
