/- What the law on the order of places needs. No condition beyond those stated. -/
import Derived.Test.YtdcljbohoefpcaaOwn
import Derived.Test.YtdcljbohoefpcaaWords1
namespace Go.Proofs.Ytdcljbohoefpcaa
open Go.RowKit Gol
theorem implWeight_natA (n : Nat) (hn : n < 16777216) (W : World) :
    Calls Try.prog 38 #[.int .i64 n] W fun e W' => e = .returned (.int .i64 (pc n : Nat)) ∧ W = W' := by
  have h0 : (0 : Int) ≤ n := by omega
  have h1 : (n : Int) ≤ 16777215 := by omega
  have Hw := Lib.hid (IsW.mk n hn)
  clear hn
  go_enter Try.func38, Try.ntmps38
  go_wp2_with (first | (go_at_call 60; refine (weight_any _ Hw.out _).mono ?_; rintro e w2 ⟨rfl, rfl⟩; simp only [Int.toNat_natCast]) | go_in)
  go_ret
  exact ⟨rfl, rfl⟩
theorem rd_open {W : World} {v : Value} {zs : List Int} (hr : Rd W v zs) : ∃ a cap, v = .slice a zs.length cap ∧ ∀ k, k < zs.length → ∃ b off, a = some ⟨b, off, none⟩ ∧ b < W.heap.size ∧ W.cell? ⟨b, off + k, none⟩ = some (.int .i64 (zs.getD k 0)) := by
  rcases hr with ⟨e, a, cap, rfl⟩ | ⟨b, off, cap, rfl, hb, hc⟩
  · exact ⟨a, cap, by rw [e]; rfl, fun k hk => by rw [e] at hk; exact absurd hk (by simp)⟩
  · exact ⟨_, cap, rfl, fun k hk => ⟨b, off, rfl, hb, hc k hk⟩⟩
theorem rev_step (zs : List Int) (i : Nat) (h : i < zs.length) : (zs.drop (i + 1)).reverse ++ [zs.getD i 0] = (zs.drop i).reverse := by
  rw [List.drop_eq_getElem_cons h, List.reverse_cons]
  simp [List.getD, h]
end Go.Proofs.Ytdcljbohoefpcaa
