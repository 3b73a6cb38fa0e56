/- Steps on the way to the law; each part says what it proves. -/
import Derived.Test.YtkbfcaaihellfaaRows
import Derived.WalkKit
import Derived.ProofKit

set_option linter.unusedSimpArgs false

namespace Go.Proofs.Ytkbfcaaihellfaa.Fr
set_option maxRecDepth 100000

/-! The three facts of a frame that hang on the head of the dump, once for all laws of the seat: its signs as a list; of its words only the first three count. -/

theorem skip (w r : List Char) (h : w.all (fun c => !(c == Char.ofNat 32)) = true) : wordsSigns (w ++ Char.ofNat 32 :: r) = w :: wordsSigns r := by
  induction w with
  | nil => rfl
  | cons a w ih =>
    simp only [List.all_cons, Bool.and_eq_true, Bool.not_eq_true', beq_eq_false_iff_ne] at h
    rw [List.cons_append, wordsSigns.eq_3 _ _ h.1, ih h.2]

def rest : List Char := [Char.ofNat 97, Char.ofNat 116, Char.ofNat 32, Char.ofNat 108, Char.ofNat 111, Char.ofNat 111, Char.ofNat 112, Char.ofNat 46, Char.ofNat 101, Char.ofNat 120, Char.ofNat 97, Char.ofNat 109, Char.ofNat 112, Char.ofNat 108, Char.ofNat 101, Char.ofNat 47, Char.ofNat 115, Char.ofNat 101, Char.ofNat 108, Char.ofNat 102, Char.ofNat 109, Char.ofNat 97, Char.ofNat 112, Char.ofNat 115, Char.ofNat 47, Char.ofNat 108, Char.ofNat 97, Char.ofNat 119, Char.ofNat 115, Char.ofNat 46, Char.ofNat 70, Char.ofNat 110, Char.ofNat 69, Char.ofNat 120, Char.ofNat 97, Char.ofNat 99, Char.ofNat 116, Char.ofNat 82, Char.ofNat 111, Char.ofNat 111, Char.ofNat 116, Char.ofNat 115, Char.ofNat 79, Char.ofNat 102, Char.ofNat 32, Char.ofNat 108, Char.ofNat 111, Char.ofNat 111, Char.ofNat 112, Char.ofNat 46, Char.ofNat 101, Char.ofNat 120, Char.ofNat 97, Char.ofNat 109, Char.ofNat 112, Char.ofNat 108, Char.ofNat 101, Char.ofNat 47, Char.ofNat 115, Char.ofNat 101, Char.ofNat 108, Char.ofNat 102, Char.ofNat 109, Char.ofNat 97, Char.ofNat 112, Char.ofNat 115, Char.ofNat 47, Char.ofNat 108, Char.ofNat 97, Char.ofNat 119, Char.ofNat 115, Char.ofNat 46, Char.ofNat 70, Char.ofNat 110, Char.ofNat 69, Char.ofNat 120, Char.ofNat 97, Char.ofNat 99, Char.ofNat 116, Char.ofNat 65, Char.ofNat 108, Char.ofNat 108, Char.ofNat 87, Char.ofNat 105, Char.ofNat 116, Char.ofNat 104, Char.ofNat 32, Char.ofNat 108, Char.ofNat 111, Char.ofNat 111, Char.ofNat 112, Char.ofNat 46, Char.ofNat 101, Char.ofNat 120, Char.ofNat 97, Char.ofNat 109, Char.ofNat 112, Char.ofNat 108, Char.ofNat 101, Char.ofNat 47, Char.ofNat 115, Char.ofNat 101, Char.ofNat 108, Char.ofNat 102, Char.ofNat 109, Char.ofNat 97, Char.ofNat 112, Char.ofNat 115, Char.ofNat 47, Char.ofNat 108, Char.ofNat 97, Char.ofNat 119, Char.ofNat 115, Char.ofNat 46, Char.ofNat 70, Char.ofNat 110, Char.ofNat 65, Char.ofNat 108, Char.ofNat 108, Char.ofNat 87, Char.ofNat 105, Char.ofNat 116, Char.ofNat 104, Char.ofNat 32, Char.ofNat 108, Char.ofNat 111, Char.ofNat 111, Char.ofNat 112, Char.ofNat 46, Char.ofNat 101, Char.ofNat 120, Char.ofNat 97, Char.ofNat 109, Char.ofNat 112, Char.ofNat 108, Char.ofNat 101, Char.ofNat 47, Char.ofNat 115, Char.ofNat 101, Char.ofNat 108, Char.ofNat 102, Char.ofNat 109, Char.ofNat 97, Char.ofNat 112, Char.ofNat 115, Char.ofNat 47, Char.ofNat 108, Char.ofNat 97, Char.ofNat 119, Char.ofNat 115, Char.ofNat 46, Char.ofNat 70, Char.ofNat 110, Char.ofNat 82, Char.ofNat 111, Char.ofNat 111, Char.ofNat 116, Char.ofNat 115, Char.ofNat 79, Char.ofNat 102, Char.ofNat 32, Char.ofNat 108, Char.ofNat 111, Char.ofNat 111, Char.ofNat 112, Char.ofNat 46, Char.ofNat 101, Char.ofNat 120, Char.ofNat 97, Char.ofNat 109, Char.ofNat 112, Char.ofNat 108, Char.ofNat 101, Char.ofNat 47, Char.ofNat 115, Char.ofNat 101, Char.ofNat 108, Char.ofNat 102, Char.ofNat 109, Char.ofNat 97, Char.ofNat 112, Char.ofNat 115, Char.ofNat 47, Char.ofNat 108, Char.ofNat 97, Char.ofNat 119, Char.ofNat 115, Char.ofNat 46, Char.ofNat 70, Char.ofNat 110, Char.ofNat 84, Char.ofNat 117, Char.ofNat 114, Char.ofNat 110, Char.ofNat 82, Char.ofNat 111, Char.ofNat 111, Char.ofNat 116, Char.ofNat 79, Char.ofNat 107, Char.ofNat 32, Char.ofNat 108, Char.ofNat 111, Char.ofNat 111, Char.ofNat 112, Char.ofNat 46, Char.ofNat 101, Char.ofNat 120, Char.ofNat 97, Char.ofNat 109, Char.ofNat 112, Char.ofNat 108, Char.ofNat 101, Char.ofNat 47, Char.ofNat 115, Char.ofNat 101, Char.ofNat 108, Char.ofNat 102, Char.ofNat 109, Char.ofNat 97, Char.ofNat 112, Char.ofNat 115, Char.ofNat 47, Char.ofNat 108, Char.ofNat 97, Char.ofNat 119, Char.ofNat 115, Char.ofNat 46, Char.ofNat 70, Char.ofNat 110, Char.ofNat 84, Char.ofNat 117, Char.ofNat 114, Char.ofNat 110, Char.ofNat 115, Char.ofNat 87, Char.ofNat 105, Char.ofNat 116, Char.ofNat 104]

theorem headIs : Try.prog.initOrder = String.ofList ([Char.ofNat 104, Char.ofNat 97, Char.ofNat 114, Char.ofNat 110, Char.ofNat 101, Char.ofNat 115, Char.ofNat 115] ++ Char.ofNat 32 :: ([Char.ofNat 56, Char.ofNat 97, Char.ofNat 50, Char.ofNat 54, Char.ofNat 54, Char.ofNat 100, Char.ofNat 51, Char.ofNat 54, Char.ofNat 97, Char.ofNat 101, Char.ofNat 53, Char.ofNat 97, Char.ofNat 53, Char.ofNat 51, Char.ofNat 52, Char.ofNat 56, Char.ofNat 101, Char.ofNat 53, Char.ofNat 50, Char.ofNat 54, Char.ofNat 53, Char.ofNat 97, Char.ofNat 54, Char.ofNat 98, Char.ofNat 50, Char.ofNat 48, Char.ofNat 98, Char.ofNat 97, Char.ofNat 100, Char.ofNat 55, Char.ofNat 56, Char.ofNat 54, Char.ofNat 52, Char.ofNat 98, Char.ofNat 49, Char.ofNat 49, Char.ofNat 98, Char.ofNat 53, Char.ofNat 98, Char.ofNat 57, Char.ofNat 53, Char.ofNat 100, Char.ofNat 50, Char.ofNat 49, Char.ofNat 101, Char.ofNat 52, Char.ofNat 102, Char.ofNat 55, Char.ofNat 51, Char.ofNat 50, Char.ofNat 55, Char.ofNat 53, Char.ofNat 97, Char.ofNat 55, Char.ofNat 53, Char.ofNat 99, Char.ofNat 49, Char.ofNat 100, Char.ofNat 98, Char.ofNat 102, Char.ofNat 102, Char.ofNat 53, Char.ofNat 52, Char.ofNat 97] ++ Char.ofNat 32 :: ([Char.ofNat 99, Char.ofNat 117, Char.ofNat 116] ++ Char.ofNat 32 :: rest))) := by kernel_rfl

theorem words : behindMainWord (wordsSigns Try.prog.initOrder.toList) = [Char.ofNat 99, Char.ofNat 117, Char.ofNat 116] :: wordsSigns rest := by
  rw [headIs, String.toList_ofList, skip _ _ (by decide +kernel), skip _ _ (by decide +kernel), skip _ _ (by decide +kernel)]
  unfold behindMainWord
  exact if_pos (by decide +kernel)

theorem sGc : ([Char.ofNat 99, Char.ofNat 117, Char.ofNat 116] == "gc".toList) = false := by kernel_rfl
theorem sSpec : ([Char.ofNat 99, Char.ofNat 117, Char.ofNat 116] == "spec".toList) = false := by kernel_rfl
theorem sCar : ([Char.ofNat 99, Char.ofNat 117, Char.ofNat 116] == "carried".toList) = false := by kernel_rfl
theorem sCut : ([Char.ofNat 99, Char.ofNat 117, Char.ofNat 116] == "cut".toList) = true := by kernel_rfl
theorem sLift (r : List (List Char)) : stripLifts liftWords ([Char.ofNat 99, Char.ofNat 117, Char.ofNat 116] :: r) = ([], [Char.ofNat 99, Char.ofNat 117, Char.ofNat 116] :: r) := by kernel_rfl
theorem sLater : Try.prog.laysLater = false := by kernel_rfl
theorem sDoor : Try.prog.doorFits [] = true := by kernel_rfl
theorem sRefl : Try.prog.bearsReflect = false := by kernel_rfl
theorem sHead (r : List (List Char)) : (([Char.ofNat 99, Char.ofNat 117, Char.ofNat 116] :: r).head? == some "cut".toList) = true := by kernel_rfl

theorem may_of (P : Program) (c : List Char) (r : List (List Char)) (h : behindMainWord (wordsSigns P.initOrder.toList) = c :: r)
    (h1 : (c == "gc".toList) = false) (h2 : (c == "spec".toList) = false) (h3 : (c == "carried".toList) = false) (h4 : stripLifts liftWords (c :: r) = ([], c :: r))
    (h5 : ((c :: r).head? == some "cut".toList) = true) (h6 : P.laysLater = false) (h7 : P.doorFits [] = true) (h8 : P.bearsReflect = false) : P.mayEnter = true := by
  unfold Program.mayEnter
  rw [h]
  simp only [h1, h2, h3, h4, h5, h6, h7, h8, Bool.or_self, Bool.false_and, Bool.true_and, Bool.not_false, Bool.or_true, List.contains_nil]

theorem may : Try.prog.mayEnter = true := may_of _ _ _ words sGc sSpec sCar (sLift _) (sHead _) sLater sDoor sRefl

theorem lifts : Try.prog.headLifts = [] := by
  unfold Program.headLifts
  rw [words]
  generalize wordsSigns rest = r
  kernel_rfl

theorem liftsF : Try.prog.liftsFinal = false := by
  unfold Program.liftsFinal
  rw [words, lifts]
  generalize wordsSigns rest = r
  kernel_rfl

theorem made_of (P : Program) (c : List Char) (r : List (List Char)) (h : behindMainWord (wordsSigns P.initOrder.toList) = c :: r)
    (h1 : (c == "gc".toList) = false) (h2 : (c == "spec".toList) = false) (h3 : (c == "cut".toList) = true) : P.make = some .cut := by
  unfold Program.make
  rw [h]
  simp only [h1, h2, h3, Bool.or_self, Bool.true_or, if_true, Bool.false_eq_true, if_false]

theorem made : Try.prog.make = some .cut := made_of _ _ _ words sGc sSpec sCut

end Go.Proofs.Ytkbfcaaihellfaa.Fr
