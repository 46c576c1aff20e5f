/- What a call hands back in new memory: a slice of ints that owns its cells. Lemmas on worlds; no condition beyond those stated. -/
import Derived.Test.YtdcljbohoefpcaaDoorBase
import Derived.Test.YtdcljbohoefpcaaDoorBits
import Derived.Outline
import Derived.WalkLawsBesides
import Derived.WalkSpells
import Derived.OwnWalk
import Derived.Lib.Hide
import Derived.Deep.LoopGhost
import Derived.Laws.OwnMore
namespace Go.Proofs.YtdcljbohoefpcaaDoor
open Go.RowKit Gol
theorem infoInt : (Tryd.prog.info? 3).map (fun i => (i.zero, i.size, i.bytes)) = some (some (.int .i64 0), 1, 8) := by kernel_rfl
/-- a slice of ints of the call's own -/
def Owns (w : World) (B : Nat) (v : Value) (zs : List Int) : Prop := w.ownsRow B 3 1 v zs.length (zs.map (Value.int .i64))
/-- a call hands back such a slice, and turns nothing below B -/
def RetOwns (B : Nat) (zs : List Int) (w : World) (e : Ending) (w' : World) : Prop := ∃ a cap, e = .returned (.slice a zs.length cap) ∧ Owns w' B (.slice a zs.length cap) zs ∧ Below B w w'
def RetOwns2 (B : Nat) (zs : List Int) (ok : Bool) (w : World) (e : Ending) (w' : World) : Prop := ∃ a cap, e = .returned (.tuple #[.slice a zs.length cap, .bool ok]) ∧ Owns w' B (.slice a zs.length cap) zs ∧ Below B w w'
theorem Owns.made (w : World) (B : Nat) (h : B ≤ w.heap.size) : Owns (w.alloc (.cells #[] 3)) B (.slice (some ⟨w.heap.size, 0, none⟩) 0 0) [] :=
  World.ownsRow_made w #[] 0 h (by decide) rfl
theorem Owns.alloc {w : World} {B : Nat} {v : Value} {zs : List Int} (h : Owns w B v zs) (o : Obj) : Owns (w.alloc o) B v zs := World.ownsRow.alloc h o
theorem one_cell (w : World) (x : Value) (T : TypeId) : ∀ j u, [x][j]? = some u → (w.alloc (.cells #[x] T)).cell? ((⟨w.heap.size, 0, none⟩ : Addr).add j) = some u := by
  intro j u hj
  match j, hj with
  | 0, hj => simp at hj; subst hj; simp [Addr.add]
theorem wpList_append_int {w : World} {ops : Array Oper} {rest : List Oper} {o : Oper} {a : Act} {Q : Exit → Act → World → Prop} (hgd : o.guard = none) (s x : Operand)
    (ho : o.op = .call { callee := .builtin .append, args := #[s, x], argTypes := #[61, 61] }) (W0 : World) (B : Nat) (v : Value) (zs : List Int) (y : Int)
    (hs : a.eval s = v) (hx : a.eval x = .slice (some ⟨w.heap.size, 0, none⟩) 1 1) (hown : Owns w B v zs) (hbel : Below B W0 w) (hB : B ≤ W0.heap.size) (hlen : zs.length ≤ 1000000)
    (h : ∀ v' w', Owns w' B v' (zs ++ [y]) → Below B W0 w' → wpList Tryd.prog ops Q rest (a.put o.dst v') w') : wpList Tryd.prog ops Q (o :: rest) a (w.alloc (.cells #[.int .i64 y] 3)) := by
  obtain ⟨i0, hi, hz0, hz1, hz2⟩ := info_parts infoInt
  have hsz : B ≤ w.heap.size := Nat.le_trans hB hbel.size
  refine wpList_append_own _ hgd s x 61 ho B 3 i0 (.int .i64 0) 1 8 Tryd.underlying61 hi hz0 hz1 hz2 rfl (by decide) v zs.length _ hs (World.ownsRow.alloc hown _) ⟨w.heap.size, 0, none⟩ 1 1 [.int .i64 y] hx rfl
    (one_cell _ _ _) (by intro u hu; simp at hu; subst hu; rfl) (by unfold maxLen; omega) (by omega) (by simp; omega) ?_
  intro v' w' hown' hg _
  refine h v' w' ?_ ?_
  · unfold Owns
    rw [List.length_append, List.map_append]
    exact hown'
  · exact (hbel.alloc hsz _).grown hg (by simp; omega) (fun k hk => (World.ownsRow.lt hown k hk).1)
/-- a slice that can be read: no element, or a row of cells that hold the list -/
def Rd (w : World) (v : Value) (zs : List Int) : Prop :=
  (zs = [] ∧ ∃ a cap, v = .slice a 0 cap) ∨ ∃ b off cap, v = .slice (some ⟨b, off, none⟩) zs.length cap ∧ b < w.heap.size ∧ ∀ j, j < zs.length → w.cell? ⟨b, off + j, none⟩ = some (.int .i64 (zs.getD j 0))
theorem Rd.kept {w w' : World} {v : Value} {zs : List Int} (h : Rd w v zs) (hb : Below w.heap.size w w') : Rd w' v zs := by
  rcases h with h | ⟨b, off, cap, rfl, hlt, hc⟩
  · exact .inl h
  · exact .inr ⟨b, off, cap, rfl, Nat.lt_of_lt_of_le hlt hb.size, fun j hj => (hb.cell (p := ⟨b, off + j, none⟩) hlt).trans (hc j hj)⟩
theorem Owns.shape {w : World} {B : Nat} {v : Value} {zs : List Int} (h : Owns w B v zs) :
    (v = .slice none 0 0 ∧ zs = []) ∨ ∃ g cap cur, v = .slice (some ⟨g, 0, none⟩) zs.length cap ∧ B ≤ g ∧ g < w.heap.size ∧ w.heap[g]? = some (.cells cur 3 (0, 0)) ∧ zs.length ≤ cap ∧ cap ≤ maxLen ∧ cur.size = cap ∧ cur.toList.take zs.length = zs.map (Value.int .i64) := by
  rcases h.2 with ⟨e1, e2⟩ | ⟨g, cap, cur, e1, hb, hg, h1, h2, h3, h4⟩
  · exact .inl ⟨e1, List.length_eq_zero_iff.1 e2⟩
  · exact .inr ⟨g, cap, cur, e1, hb, (Array.getElem?_eq_some_iff.1 hg).1, hg, h1, h2, by omega, by simpa using h4⟩
theorem Owns.rd {w : World} {B : Nat} {v : Value} {zs : List Int} (h : Owns w B v zs) : Rd w v zs := by
  rcases h.shape with ⟨rfl, rfl⟩ | ⟨g, cap, cur, rfl, _, hlt, hg, h1, _, h3, h4⟩
  · exact .inl ⟨rfl, _, _, rfl⟩
  · refine .inr ⟨g, 0, cap, rfl, hlt, fun j hj => ?_⟩
    rw [Nat.zero_add, cell_of_row w g j cur 3 (0, 0) hg]
    have e : (cur.toList.take zs.length)[j]? = some (.int .i64 (zs.getD j 0)) := by
      rw [h4, List.getElem?_map, List.getElem?_eq_getElem hj]
      simp [List.getD, hj]
    rw [List.getElem?_take, if_pos hj] at e
    simpa using e
theorem Owns.kept {w w' : World} {B : Nat} {v : Value} {zs : List Int} (h : Owns w B v zs) (hb : Below w.heap.size w w') : Owns w' B v zs := by
  refine ⟨h.1, ?_⟩
  rcases h.2 with hn | ⟨g, cap, cur, e1, hB, hg, rest⟩
  · exact .inl hn
  · exact .inr ⟨g, cap, cur, e1, hB, by rw [hb.block g (Array.getElem?_eq_some_iff.1 hg).1]; exact hg, rest⟩
theorem Owns.base {w : World} {B B' : Nat} {v : Value} {zs : List Int} (h : Owns w B v zs) (hb : B' ≤ B) : Owns w B' v zs := by
  refine ⟨h.1, ?_⟩
  rcases h.2 with hn | ⟨g, cap, cur, e1, hB, rest⟩
  · exact .inl hn
  · exact .inr ⟨g, cap, cur, e1, Nat.le_trans hb hB, rest⟩
theorem Owns.form {w : World} {B : Nat} {v : Value} {zs : List Int} (h : Owns w B v zs) : ∃ a cap, v = .slice a zs.length cap := by
  rcases h.shape with ⟨rfl, rfl⟩ | ⟨g, cap, cur, rfl, _⟩
  · exact ⟨none, 0, rfl⟩
  · exact ⟨_, cap, rfl⟩
theorem RetOwns.mk {w w' : World} {B : Nat} {v : Value} {zs : List Int} (h : Owns w' B v zs) (hb : Below B w w') : RetOwns B zs w (.returned v) w' := by
  obtain ⟨a, cap, rfl⟩ := h.form
  exact ⟨a, cap, rfl, h, hb⟩
theorem RetOwns2.mk {w w' : World} {B : Nat} {v : Value} {zs : List Int} {ok : Bool} (h : Owns w' B v zs) (hb : Below B w w') : RetOwns2 B zs ok w (.returned (.tuple #[v, .bool ok])) w' := by
  obtain ⟨a, cap, rfl⟩ := h.form
  exact ⟨a, cap, rfl, h, hb⟩
/-- where there is an element there is a block -/
theorem Owns.head {w : World} {B : Nat} {a : Option Addr} {n cap : Nat} {zs : List Int} (h : Owns w B (.slice a n cap) zs) (hn : zs.length ≠ 0) :
    ∃ g, a = some ⟨g, 0, none⟩ ∧ B ≤ g ∧ g < w.heap.size ∧ ∀ j, j < zs.length → w.cell? ⟨g, j, none⟩ = some (.int .i64 (zs.getD j 0)) := by
  rcases h.shape with ⟨_, e⟩ | ⟨g, cap', cur, e, hB, hlt, hg, h1, _, h3, h4⟩
  · exact absurd (by rw [e]; rfl) hn
  · simp only [Value.slice.injEq] at e
    refine ⟨g, e.1, hB, hlt, fun j hj => ?_⟩
    rw [cell_of_row w g j cur 3 (0, 0) hg]
    have e : (cur.toList.take zs.length)[j]? = some (.int .i64 (zs.getD j 0)) := by
      rw [h4, List.getElem?_map, List.getElem?_eq_getElem hj]
      simp [List.getD, hj]
    rw [List.getElem?_take, if_pos hj] at e
    simpa using e
/-- the comparison of two lists, as a Bool of its own -/
def eqL (a b : List Int) : Bool := decide (a = b)
theorem eqL_self (a : List Int) : eqL a a = true := by simp [eqL]
theorem IsRow.rd {w : World} {a : Option Addr} {len cap : Nat} {z : List Int} (h : IsRow .i64 w a len cap z) : ∃ zs : List Int, zs.length = len ∧ Rd w (.slice a len cap) zs := by
  rcases h with ⟨rfl, rfl, rfl, rfl⟩ | ⟨x, rfl, hl, _, hz, hc, _⟩
  · exact ⟨[], rfl, .inl ⟨rfl, _, _, rfl⟩⟩
  · by_cases h0 : len = 0
    · subst h0; exact ⟨[], rfl, .inl ⟨rfl, _, _, rfl⟩⟩
    · obtain ⟨b, off, spot⟩ := x
      have hspot : spot = none := by simpa [Addr.add] using World.cell?_spot (hc 0 (by omega))
      subst hspot
      have hlen : (z.take len).length = len := by rw [List.length_take]; omega
      refine ⟨z.take len, hlen, .inr ⟨b, off, cap, by rw [hlen], ?_, ?_⟩⟩
      · have := World.block_lt_of_cell? w _ (hc 0 (by omega))
        simpa [Addr.add] using this
      · intro j hj
        have := hc j (by omega)
        have e : (z.take len).getD j 0 = z.getD j 0 := by simp [List.getD, show j < len by omega]
        rw [e]
        have ea : (⟨b, off, none⟩ : Addr).add j = ⟨b, off + j, none⟩ := by unfold Addr.add; split <;> simp_all
        rw [← ea]; exact this
theorem grownBy_trans {a b c : World} {r : Option Nat} (h : a.grownBy b r) (k : b.grownBy c r) : a.grownBy c r :=
  ⟨k.os.trans h.os, k.tape.trans h.tape, k.output.trans h.output, Nat.le_trans h.size k.size, fun i hi hn => (k.block i (Nat.lt_of_lt_of_le hi h.size) hn).trans (h.block i hi hn)⟩
theorem grownBy_refl (a : World) (r : Option Nat) : a.grownBy a r := ⟨rfl, rfl, rfl, Nat.le_refl _, fun _ _ _ => rfl⟩
end Go.Proofs.YtdcljbohoefpcaaDoor
