/- An append of one int to a row of the call's own, at a step of a region that draws its order. No condition beyond those stated. -/
import Derived.Test.YtompdebingllmaaOwn
import Derived.Deep.RegionHeld3
import Derived.Deep.AppendLies
namespace Go.Proofs.Ytompdebingllmaa
open Go.RowKit Gol
theorem step_append_int {w : World} {ops : Array Oper} {o : Oper} {a : Act} {K : Act → World → Prop} {Q : Exit → Act → World → Prop} {E : Prop} (hgd : o.guard = none) (s x : Operand)
    (ho : o.op = .call { callee := .builtin .append, args := #[s, x], argTypes := #[25, 25] }) (W0 : World) (B : Nat) (v : Value) (zs : List Int) (y : Int) (N : Nat)
    (hs : a.eval s = v) (hx : a.eval x = .slice (some ⟨N, 0, none⟩) 1 1) (hown : Owns w B v zs) (hy : w.cell? ⟨N, 0, none⟩ = some (.int .i64 y)) (hbel : Below B W0 w) (hB : B ≤ W0.heap.size) (hlen : zs.length ≤ 1000000)
    (h : ∀ v' w', Owns w' B v' (zs ++ [y]) → Below B W0 w' → Below B w w' → K (a.put o.dst v') w') :
    if Region.wanted o (yielded ops a.tmps) = true then Oper.wp Try.prog o a w K Q else E := by
  obtain ⟨i0, hi, hz0, hz1, hz2⟩ := info_parts infoInt
  have hsz : B ≤ w.heap.size := Nat.le_trans hB hbel.size
  refine step_append_lies w hgd s x 25 ho B 3 i0 (.int .i64 0) 1 8 Try.underlying25 hi hz0 hz1 hz2 rfl (by decide) v zs.length _ hs hown ⟨N, 0, none⟩ 1 1 [.int .i64 y] hx rfl
    (by intro j u hj; match j, hj with | 0, hj => (simp at hj; subst hj; simpa [Addr.add] using hy)) (by intro u hu; simp at hu; subst hu; rfl) (by decide) (by unfold maxLen; omega) (by omega) hsz w.heap.size rfl ?_
  intro g cap w' hown' hg _ _
  have hb : Below B w w' := (Below.refl B w).grown hg hsz (fun k hk => (World.ownsRow.lt hown k hk).1)
  refine h _ w' ?_ (hbel.grown hg hsz (fun k hk => (World.ownsRow.lt hown k hk).1)) hb
  unfold Owns
  rw [List.length_append, List.map_append]
  exact hown'
end Go.Proofs.Ytompdebingllmaa
