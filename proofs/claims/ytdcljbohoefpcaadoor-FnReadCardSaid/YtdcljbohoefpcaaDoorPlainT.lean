/- The text of a word, row by row. No program in sight; no condition. -/
import Derived.Test.YtdcljbohoefpcaaDoorPlainW
import Derived.Lib.Join
namespace Gol
/-- the sign of a place -/
def ch (n p : Nat) : UInt8 := if bitN n p = 1 then 120 else 46
/-- the first k signs of a row -/
def rowT (n r : Nat) : Nat → List UInt8
  | 0 => []
  | k + 1 => rowT n r k ++ [ch n (4 * k + r)]
/-- the first r rows, with a stroke between -/
def txt (n : Nat) : Nat → List UInt8
  | 0 => []
  | r + 1 => txt n r ++ (if r = 0 then [] else [47]) ++ rowT n r 6
theorem rowT_len (n r : Nat) : ∀ k, (rowT n r k).length = k
  | 0 => rfl
  | k + 1 => by rw [rowT, List.length_append, rowT_len n r k]; rfl
theorem txt_len (n : Nat) : ∀ r, (txt n r).length ≤ 7 * r
  | 0 => Nat.le_refl _
  | r + 1 => by
    have := txt_len n r
    rw [txt, List.length_append, List.length_append, rowT_len]
    split <;> simp <;> omega
theorem txt_four (n : Nat) : (txt n 4).length = 27 := by
  simp [txt, rowT_len]
/-- the rows by themselves -/
def rowsT (n : Nat) : Nat → List ByteArray
  | 0 => []
  | r + 1 => rowsT n r ++ [⟨(rowT n r 6).toArray⟩]
theorem rowsT_len (n : Nat) : ∀ r, (rowsT n r).length = r
  | 0 => rfl
  | r + 1 => by rw [rowsT, List.length_append, rowsT_len n r]; rfl
theorem join_rows (n : Nat) : Go.Lib.join ((rowsT n 4).map (·.data.toList)) [47] = txt n 4 := by
  simp [rowsT, txt, Go.Lib.join, List.intercalate]
theorem str_app (l m : List UInt8) : (⟨l.toArray⟩ : ByteArray) ++ ⟨m.toArray⟩ = ⟨(l ++ m).toArray⟩ := by
  apply ByteArray.ext
  simp
end Gol
