/- What the law on words with three wrong places needs. No condition beyond those stated. -/
import Derived.Test.YtompdebingllmaaNear3
import Derived.Test.YtompdebingllmaaCodeLaws
namespace Go.Proofs.Ytompdebingllmaa
open Go.RowKit Gol
theorem pc_pow : ∀ a, a < 24 → pc (2 ^ a) = 1 ∧ 2 ^ a < 16777216 := by decide
theorem xor4 (e a b c : Nat) : e ^^^ a ^^^ b ^^^ c = e ^^^ (a ^^^ b ^^^ c) := by rw [Nat.xor_assoc, Nat.xor_assoc, Nat.xor_assoc]
theorem xorN (y q : Nat) (hy : y < 16777216) (hq : q < 16777216) : bits .xor .i64 (y : Int) (wrap64 (q : Int)) = ((y ^^^ q : Nat) : Int) := by
  have e3 : wrap64 (q : Int) = (q : Int) := (IntWalk.i64_left _).symm.trans (i64_nat q (by omega))
  rw [e3]
  exact i64_xor _ _ (by omega) (by omega)
theorem sent_law (n : Nat) (hn : n < 4096) : ∃ e y1 y2 y3 : Nat,
    Hid (∀ W, Calls Try.prog 33 #[.int .i64 n] W (IntIs e true W)) ∧
    Hid (∀ W, Calls Try.prog 32 #[.int .i64 n] W (IntIs e true W)) ∧
    Hid (bits .xor .i64 (e : Int) (wrap64 ((2 : Int) ^ (n % 24))) = (y1 : Int)) ∧ Hid (bits .xor .i64 (y1 : Int) (wrap64 ((2 : Int) ^ ((n + 5) % 24))) = (y2 : Int)) ∧ Hid (bits .xor .i64 (y2 : Int) (wrap64 ((2 : Int) ^ ((n + 11) % 24))) = (y3 : Int)) ∧
    Hid (∀ W, Calls Try.prog 19 #[.int .i64 y3] W (IntIs e true W)) := by
  obtain ⟨h1, h2, h3⟩ := enc_ok n hn
  obtain ⟨p1, q1⟩ := pc_pow (n % 24) (Nat.mod_lt _ (by decide))
  obtain ⟨p2, q2⟩ := pc_pow ((n + 5) % 24) (Nat.mod_lt _ (by decide))
  obtain ⟨p3, q3⟩ := pc_pow ((n + 11) % 24) (Nat.mod_lt _ (by decide))
  have hI := fun W => implCodeOf_any n W
  have hS := fun W => specCodeOf_any n W
  rw [(encZ_nat n hn).1, (encZ_nat n hn).2] at hI hS
  have x64 : ∀ y a : Nat, y < 16777216 → 2 ^ a < 16777216 → bits .xor .i64 (y : Int) (wrap64 ((2 : Int) ^ a)) = ((y ^^^ 2 ^ a : Nat) : Int) := fun y a hy ha => by
    have e2 : ((2 : Int) ^ a) = ((2 ^ a : Nat) : Int) := by simp
    rw [e2]
    exact xorN y (2 ^ a) hy ha
  refine ⟨enc n, enc n ^^^ 2 ^ (n % 24), enc n ^^^ 2 ^ (n % 24) ^^^ 2 ^ ((n + 5) % 24), enc n ^^^ 2 ^ (n % 24) ^^^ 2 ^ ((n + 5) % 24) ^^^ 2 ^ ((n + 11) % 24), Lib.hid hI, Lib.hid hS,
    Lib.hid (x64 _ _ h1 q1), Lib.hid (x64 _ _ (xor_lt24 h1 q1) q2), Lib.hid (x64 _ _ (xor_lt24 (xor_lt24 h1 q1) q2) q3), Lib.hid (fun W => ?_)⟩
  · rw [xor4]
    have t1 := pc_tri (2 ^ (n % 24)) (2 ^ ((n + 5) % 24))
    have t2 := pc_tri (2 ^ (n % 24) ^^^ 2 ^ ((n + 5) % 24)) (2 ^ ((n + 11) % 24))
    exact sent_all n _ hn (xor_lt24 (xor_lt24 q1 q2) q3) (by omega) W
end Go.Proofs.Ytompdebingllmaa
