/- Rows of values of any one-celled kind, of the call's own: an append of one. No condition beyond those stated. -/
import Derived.Test.YtdcljbohoefpcaaDoorOwn
import Derived.Laws.IdiomStrings
namespace Go.Proofs.YtdcljbohoefpcaaDoor
open Go.RowKit Gol
theorem infoByte : (Tryd.prog.info? 5).map (fun i => (i.zero, i.size, i.bytes)) = some (some (.int .u8 0), 1, 1) := by kernel_rfl
theorem infoStr : (Tryd.prog.info? 9).map (fun i => (i.zero, i.size, i.bytes)) = some (some (.string ByteArray.empty), 1, 16) := by kernel_rfl
theorem wpList_append_gen {w : World} {ops : Array Oper} {rest : List Oper} {o : Oper} {a : Act} {Q : Exit → Act → World → Prop} (hgd : o.guard = none) (s x : Operand) (t e : TypeId) (z : Value) (by1 : Nat)
    (ht : Tryd.prog.underlying t = some (.slice e)) (hinfo : (Tryd.prog.info? e).map (fun i => (i.zero, i.size, i.bytes)) = some (some z, 1, by1)) (hz1 : z.cells.size = 1) (hb16 : by1 ≤ 16)
    (ho : o.op = .call { callee := .builtin .append, args := #[s, x], argTypes := #[t, t] }) (W0 : World) (B : Nat) (v : Value) (xs : List Value) (y : Value) (hy : y.oneCell' = true) (N : Nat) (hN : w.heap.size = N)
    (hs : a.eval s = v) (hx : a.eval x = .slice (some ⟨N, 0, none⟩) 1 1) (hown : w.ownsRow B e 1 v xs.length xs) (hbel : Below B W0 w) (hB : B ≤ W0.heap.size) (hlen : xs.length ≤ 1000000)
    (h : ∀ v' w', w'.ownsRow B e 1 v' (xs ++ [y]).length (xs ++ [y]) → Below B W0 w' → wpList Tryd.prog ops Q rest (a.put o.dst v') w') : wpList Tryd.prog ops Q (o :: rest) a (w.alloc (.cells #[y] e)) := by
  subst hN
  obtain ⟨i0, hi, hz0, hz2, hz3⟩ := info_parts hinfo
  have hsz : B ≤ w.heap.size := Nat.le_trans hB hbel.size
  refine wpList_append_own _ hgd s x t ho B e i0 z 1 by1 ht hi hz0 hz2 hz3 hz1 (by decide) v xs.length _ hs (World.ownsRow.alloc hown _) ⟨w.heap.size, 0, none⟩ 1 1 [y] hx rfl
    (one_cell _ _ _) (by intro u hu; simp at hu; subst hu; exact hy) (by unfold maxLen; omega) (by have : (xs.length + 1) * by1 ≤ 1000001 * 16 := Nat.mul_le_mul (by omega) hb16; omega) (by simp; omega) ?_
  intro v' w' hown' hg _
  refine h v' w' ?_ ?_
  · rw [List.length_append]
    exact hown'
  · exact (hbel.alloc hsz _).grown hg (by simp; omega) (fun k hk => (World.ownsRow.lt hown k hk).1)
theorem row_cells {w : World} {B : Nat} {e : TypeId} {v : Value} {xs : List Value} (h : w.ownsRow B e 1 v xs.length xs) (hn : xs.length ≠ 0) :
    ∃ g cap, v = .slice (some ⟨g, 0, none⟩) xs.length cap ∧ B ≤ g ∧ g < w.heap.size ∧ xs.length ≤ cap ∧ ∀ j y, xs[j]? = some y → w.cell? ⟨g, j, none⟩ = some y := by
  rcases h.2 with ⟨_, e2⟩ | ⟨g, cap, cur, e1, hb, hg, h1, h2, h3, h4⟩
  · exact absurd e2 hn
  · refine ⟨g, cap, e1, hb, (Array.getElem?_eq_some_iff.1 hg).1, h1, fun j y hj => ?_⟩
    rw [cell_of_row w g j cur e (0, 0) hg]
    have hlt : j < xs.length := by
      rcases Nat.lt_or_ge j xs.length with h | h
      · exact h
      · rw [List.getElem?_eq_none h] at hj; cases hj
    have e5 : (cur.toList.take xs.length)[j]? = some y := by
      have h4' : cur.toList.take xs.length = xs := by simpa using h4
      rw [h4']; exact hj
    rw [List.getElem?_take, if_pos hlt] at e5
    simpa using e5
theorem row_kept {w w' : World} {B : Nat} {e : TypeId} {v : Value} {n : Nat} {xs : List Value} (h : w.ownsRow B e 1 v n xs) (hb : Below w.heap.size w w') : w'.ownsRow B e 1 v n xs := by
  refine ⟨h.1, ?_⟩
  rcases h.2 with hn | ⟨g, cap, cur, e1, hB, hg, rest⟩
  · exact .inl hn
  · exact .inr ⟨g, cap, cur, e1, hB, by rw [hb.block g (Array.getElem?_eq_some_iff.1 hg).1]; exact hg, rest⟩
end Go.Proofs.YtdcljbohoefpcaaDoor
