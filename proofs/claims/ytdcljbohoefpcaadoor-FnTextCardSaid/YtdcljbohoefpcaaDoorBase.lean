/- The closed facts on the dump's head word: the program may be entered, nothing is lifted, it is a cut. No condition. -/
import Derived.Test.YtdcljbohoefpcaaDoorRows
import Derived.WalkKit
import Derived.ProofKit
import Derived.OpenShut
import Derived.ShutString
import Derived.ChangeOld
import Derived.Below
namespace Go.Proofs.YtdcljbohoefpcaaDoor
open Go
theorem words_cons (r : List Char) : ∀ w : List Char, (w.all fun c => !(c == Char.ofNat 32)) = true → wordsSigns (w ++ Char.ofNat 32 :: r) = w :: wordsSigns r := by
  intro w
  induction w with
  | nil => intro _; rfl
  | cons c w ih =>
    intro h
    simp only [List.all_cons, Bool.and_eq_true] at h
    have hc : c ≠ Char.ofNat 32 := by
      have := h.1
      simpa using this
    rw [List.cons_append, wordsSigns.eq_3 _ _ (fun e => hc e), ih h.2]
def head1 : List Char := ([104, 97, 114, 110, 101, 115, 115] : List Nat).map Char.ofNat
def head2 : List Char := ([57, 102, 100, 98, 55, 52, 98, 52, 97, 98, 100, 53, 101, 53, 54, 53, 51, 54, 53, 57, 101, 99, 50, 98, 53, 101, 48, 100, 98, 101, 98, 52, 57, 100, 52, 48, 57, 102, 50, 57, 100, 53, 56, 102, 48, 99, 52, 98, 49, 50, 102, 57, 100, 101, 98, 50, 97, 100, 50, 98, 49, 100, 49, 48] : List Nat).map Char.ofNat
def head3 : List Char := ([99, 117, 116] : List Nat).map Char.ofNat
def head4 : List Char := ([97, 116, 32, 108, 111, 111, 112, 46, 101, 120, 97, 109, 112, 108, 101, 47, 103, 111, 108, 97, 121, 111, 99, 116, 97, 100, 115, 47, 108, 97, 119, 115, 46, 70, 110, 69, 120, 97, 99, 116, 87, 111, 114, 100, 82, 101, 97, 100, 32, 108, 111, 111, 112, 46, 101, 120, 97, 109, 112, 108, 101, 47, 103, 111, 108, 97, 121, 111, 99, 116, 97, 100, 115, 47, 108, 97, 119, 115, 46, 70, 110, 84, 101, 120, 116, 32, 108, 111, 111, 112, 46, 101, 120, 97, 109, 112, 108, 101, 47, 103, 111, 108, 97, 121, 111, 99, 116, 97, 100, 115, 47, 108, 97, 119, 115, 46, 70, 110, 82, 101, 97, 100] : List Nat).map Char.ofNat
def headAll : List Char := head1 ++ Char.ofNat 32 :: (head2 ++ Char.ofNat 32 :: (head3 ++ Char.ofNat 32 :: head4))
theorem headBytes : Tryd.prog.initOrder.toByteArray = List.utf8Encode headAll := by kernel_rfl
theorem headEq : Tryd.prog.initOrder = String.ofList headAll := String.toByteArray_inj.1 (headBytes.trans String.toByteArray_ofList.symm)
theorem headWords : ∃ R, wordsSigns Tryd.prog.initOrder.toList = head1 :: head2 :: head3 :: R := by
  refine ⟨wordsSigns head4, ?_⟩
  rw [headEq, String.toList_ofList]
  unfold headAll
  rw [words_cons _ _ (by decide +kernel), words_cons _ _ (by decide +kernel), words_cons _ _ (by decide +kernel)]
theorem mayEnter_of (P : Program) (R : List (List Char)) (h : wordsSigns P.initOrder.toList = head1 :: head2 :: head3 :: R) (h1 : P.laysLater = false) (h2 : P.bearsReflect = false) (h3 : P.doorFits [] = true) : P.mayEnter = true := by
  have e : behindMainWord (wordsSigns P.initOrder.toList) = head3 :: R := by rw [h]; kernel_rfl
  have f : stripLifts liftWords (head3 :: R) = ([], head3 :: R) := by kernel_rfl
  have g : head3 = "cut".toList := by kernel_rfl
  unfold Program.mayEnter
  rw [e]
  simp only [f, h1, h2, h3]
  rw [g]
  simp
theorem lifts_of (P : Program) (R : List (List Char)) (h : wordsSigns P.initOrder.toList = head1 :: head2 :: head3 :: R) : P.liftsFinal = false := by
  unfold Program.liftsFinal Program.headLifts
  rw [h]
  kernel_rfl
theorem make_of (P : Program) (R : List (List Char)) (h : wordsSigns P.initOrder.toList = head1 :: head2 :: head3 :: R) : P.make = some .cut := by
  unfold Program.make Program.headLifts
  rw [h]
  kernel_rfl
theorem mayEnter : Tryd.prog.mayEnter = true := headWords.elim fun R h => mayEnter_of _ R h (by kernel_rfl) (by kernel_rfl) (by kernel_rfl)
theorem lifts : Tryd.prog.liftsFinal = false := headWords.elim fun R h => lifts_of _ R h
theorem make : Tryd.prog.make = some .cut := headWords.elim fun R h => make_of _ R h
theorem liftedF (b : Bool) (h : b = false) : (b == Tryd.prog.liftsFinal) = true := by rw [lifts, h]; rfl
theorem madeC (m : Make) (h : m = .cut) : (Tryd.prog.make == some m) = true := by rw [make, h]; rfl
theorem own : ownKnob Tryd.prog.godebug = none := by kernel_rfl
theorem laidOut : laidOutB Tryd.prog = true := by kernel_rfl

/-- A slice of integers that came in: nil, or a row of 'cap' cells that hold 'zs'. -/
def IsRow (k : IntKind) (w : World) (a : Option Addr) (len cap : Nat) (zs : List Int) : Prop :=
  (a = none ∧ len = 0 ∧ cap = 0 ∧ zs = []) ∨
  ∃ x, a = some x ∧ len ≤ cap ∧ cap ≤ maxLen ∧ zs.length = cap ∧ (∀ i, i < zs.length → w.cell? (x.add i) = some (.int k (zs.getD i 0))) ∧ ∀ n ∈ zs, (Lit.int k n).wf = true
end Go.Proofs.YtdcljbohoefpcaaDoor
