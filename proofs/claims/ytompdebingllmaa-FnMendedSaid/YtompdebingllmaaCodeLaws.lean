/- What the code's laws need: at one word or message, the numbers and lists that the calls hand back. No condition beyond those stated. -/
import Derived.Test.YtompdebingllmaaDrawC
import Derived.Test.YtompdebingllmaaCodeOf
import Derived.Test.YtompdebingllmaaCodeMsg
import Derived.Test.YtompdebingllmaaHexAdd
namespace Go.Proofs.Ytompdebingllmaa
open Go.RowKit Gol
theorem scoreZ_nat (n : Nat) (hn : n < 16777216) : scoreZ n = ints (scores n) ∧ isW n = true := by simp [scoreZ, isW_yes (IsW.mk n hn)]
theorem implScores_nat (n : Nat) (hn : n < 16777216) (W : World) : Calls Try.prog 31 #[.int .i64 n] W (RetOwns2 W.heap.size (ints (scores n)) true W) := by
  have h := implScores_any n W
  rwa [(scoreZ_nat n hn).1, (scoreZ_nat n hn).2] at h
theorem specScores_nat (n : Nat) (hn : n < 16777216) (W : World) : Calls Try.prog 30 #[.int .i64 n] W (RetOwns2 W.heap.size (ints (scores n)) true W) := by
  have h := specScores_any n W
  rwa [(scoreZ_nat n hn).1, (scoreZ_nat n hn).2] at h
def SumIs (x : Nat) (W : World) (e : Ending) (W' : World) : Prop := e = .returned (.tuple #[.int .i64 x, .bool true]) ∧ W = W'
theorem scores_not (n : Nat) : scores (n ^^^ 16777215) = scores n := by rw [scores_add, scores_max, addL_zero (scores_row n)]
theorem scores_all (n : Nat) (hn : n < 16777216) : ∃ a b : Nat, ∃ S T U : List Int, S.length = 6 ∧ T.length = 6 ∧ U.length = 6 ∧
    Hid (∀ W, Calls Try.prog 31 #[.int .i64 n] W (RetOwns2 W.heap.size S true W)) ∧
    Hid (∀ W, Calls Try.prog 30 #[.int .i64 n] W (RetOwns2 W.heap.size S true W)) ∧
    Hid (∀ W, Calls Try.prog 36 #[.int .i64 n, .int .i64 16777215] W (SumIs a W)) ∧
    Hid (∀ W, Calls Try.prog 31 #[.int .i64 a] W (RetOwns2 W.heap.size S true W)) ∧
    Hid (∀ W, Calls Try.prog 36 #[.int .i64 n, .int .i64 30583] W (SumIs b W)) ∧
    Hid (∀ W, Calls Try.prog 31 #[.int .i64 b] W (RetOwns2 W.heap.size U true W)) ∧
    Hid (∀ W, Calls Try.prog 31 #[.int .i64 30583] W (RetOwns2 W.heap.size T true W)) ∧
    Hid (∀ v u W, Rd W v S → Rd W u T → Calls Try.prog 37 #[v, u] W (RetOwns2 W.heap.size U true W)) := by
  have h1 : n ^^^ 16777215 < 16777216 := xor_lt24 hn (by decide)
  have h2 : n ^^^ 30583 < 16777216 := xor_lt24 hn (by decide)
  refine ⟨n ^^^ 16777215, n ^^^ 30583, ints (scores n), ints (scores 30583), ints (scores (n ^^^ 30583)), rfl, rfl, rfl, Lib.hid (fun W => implScores_nat n hn W), Lib.hid (fun W => specScores_nat n hn W), Lib.hid (fun W => implAdd_nat n 16777215 hn (by decide) W), Lib.hid (fun W => ?_),
    Lib.hid (fun W => implAdd_nat n 30583 hn (by decide) W), Lib.hid (fun W => implScores_nat _ h2 W), Lib.hid (fun W => implScores_nat 30583 (by decide) W), Lib.hid (fun v u W hv hu => ?_)⟩
  · have h := implScores_nat _ h1 W
    rwa [scores_not] at h
  · have h := implHexAdd_any v u _ _ W hv hu (by rw [scores_len]; decide) (by rw [scores_len]; decide)
    rwa [addZ_row (scores_row n) (scores_row 30583), row_rowB (scores_row n), row_rowB (scores_row 30583), ← scores_add] at h
theorem codeIn_all (n : Nat) (hn : n < 16777216) (hin : inCode n = true) : ∃ a k : Nat, ∃ S : List Int, S.length = 6 ∧ (k = 0 ∨ k = 8 ∨ k = 12 ∨ k = 16 ∨ k = 24) ∧
    Hid (∀ W, Calls Try.prog 29 #[.int .i64 n] W fun e W' => e = .returned (.int .i64 k) ∧ W = W') ∧
    Hid (∀ W, Calls Try.prog 36 #[.int .i64 n, .int .i64 16777215] W (SumIs a W)) ∧
    Hid (∀ W, Calls Try.prog 31 #[.int .i64 n] W (RetOwns2 W.heap.size S true W)) ∧
    Hid (∀ W, Calls Try.prog 28 #[.int .i64 a] W (CodeIs true W)) ∧
    Hid (∀ v W, Rd W v S → Calls Try.prog 46 #[v] W (CodeIs true W)) := by
  have h1 : n ^^^ 16777215 < 16777216 := xor_lt24 hn (by decide)
  have hw : pc n = 0 ∨ pc n = 8 ∨ pc n = 12 ∨ pc n = 16 ∨ pc n = 24 := by
    obtain ⟨m, hm, rfl⟩ := (inCode_iff n hn).1 hin
    have := enc_weight m hm
    omega
  have hhex : inHex (scores n) = true := by
    have h := hin
    simp only [inCode, Bool.and_eq_true] at h
    exact h.2
  refine ⟨n ^^^ 16777215, pc n, ints (scores n), rfl, hw, Lib.hid (fun W => implWeight_nat n hn W), Lib.hid (fun W => implAdd_nat n 16777215 hn (by decide) W), Lib.hid (fun W => implScores_nat n hn W), Lib.hid (fun W => ?_), Lib.hid (fun v W hv => ?_)⟩
  · have h := implCodeIn_any (n ^^^ 16777215 : Nat) W
    rwa [codeB_nat _ h1, inCode_add hn (by decide) hin inCode_max] at h
  · have h := implHexIn_any v _ W hv (by rw [scores_len]; decide)
    rw [hexB_row (scores_row n), hhex] at h
    exact h
theorem codeOf_all (n : Nat) (hn : n < 4096) : ∃ e f g h : Nat,
    Hid (∀ W, Calls Try.prog 33 #[.int .i64 n] W (IntIs e true W)) ∧
    Hid (∀ W, Calls Try.prog 32 #[.int .i64 n] W (IntIs e true W)) ∧
    Hid (∀ W, Calls Try.prog 43 #[.int .i64 e] W (IntIs2 n true W)) ∧
    Hid (∀ W, Calls Try.prog 33 #[.int .i64 1365] W (IntIs f true W)) ∧
    Hid (∀ W, Calls Try.prog 36 #[.int .i64 e, .int .i64 f] W (SumIs g W)) ∧
    bits .xor .i64 (n : Int) 1365 = (h : Int) ∧
    Hid (∀ W, Calls Try.prog 33 #[.int .i64 h] W (IntIs g true W)) ∧
    Hid (∀ W, Calls Try.prog 28 #[.int .i64 e] W (CodeIs true W)) := by
  obtain ⟨h1, h2, h3⟩ := enc_ok n hn
  obtain ⟨k1, _, _⟩ := enc_ok 1365 (by decide)
  have hx : n ^^^ 1365 < 4096 := xor_lt4096 hn (by decide)
  have hI : ∀ m : Nat, m < 4096 → ∀ W, Calls Try.prog 33 #[.int .i64 m] W (IntIs (enc m : Nat) true W) := fun m hm W => by
    have h := implCodeOf_any m W
    rwa [(encZ_nat m hm).1, (encZ_nat m hm).2] at h
  refine ⟨enc n, enc 1365, enc (n ^^^ 1365), n ^^^ 1365, Lib.hid (hI n hn), Lib.hid (fun W => ?_), Lib.hid (fun W => ?_), Lib.hid (hI 1365 (by decide)), Lib.hid (fun W => ?_), i64_xor n 1365 (by omega) (by decide), Lib.hid (hI _ hx), Lib.hid (fun W => ?_)⟩
  · have h := specCodeOf_any n W
    rwa [(encZ_nat n hn).1, (encZ_nat n hn).2] at h
  · have h := implCodeMessage_any (enc n : Nat) W
    have hb : codeB (enc n : Nat) = true := by rw [codeB_nat _ h1]; exact h2
    rw [hb, msgZ, hb] at h
    simpa [h3] using h
  · have h := implAdd_nat (enc n) (enc 1365) h1 k1 W
    rw [← enc_add hn (by decide)] at h
    exact h
  · have h := implCodeIn_any (enc n : Nat) W
    rwa [codeB_nat _ h1, h2] at h
theorem message_all (w : Int) (hB : codeB w = true) : ∃ k : Nat, k < 4096 ∧
    Hid (∀ W, Calls Try.prog 43 #[.int .i64 w] W (IntIs2 k true W)) ∧
    Hid (∀ W, Calls Try.prog 44 #[.int .i64 w] W (IntIs2 k true W)) ∧
    Hid (∀ W, Calls Try.prog 33 #[.int .i64 k] W (IntIs w true W)) := by
  obtain ⟨hw1, hin⟩ := Bool.and_eq_true_iff.1 hB
  have hw : IsW w := by simpa [isW, IsW] using hw1
  obtain ⟨n, rfl, hn⟩ := hw.of
  have hin' : inCode n = true := by simpa using hin
  have hz : msgZ n = (msg n : Nat) := by simp [msgZ, hB]
  refine ⟨msg n, msg_lt n, Lib.hid (fun W => ?_), Lib.hid (fun W => ?_), Lib.hid (fun W => ?_)⟩
  · have h := implCodeMessage_any n W
    rwa [hz, hB] at h
  · have h := specCodeMessage_any n W
    rwa [hz, hB] at h
  · have h := implCodeOf_any (msg n : Nat) W
    rw [(encZ_nat _ (msg_lt n)).1, (encZ_nat _ (msg_lt n)).2, enc_msg n hn hin'] at h
    exact h
end Go.Proofs.Ytompdebingllmaa
