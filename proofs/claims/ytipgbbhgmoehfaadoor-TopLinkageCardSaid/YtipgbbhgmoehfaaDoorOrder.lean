/-
  The order row of the program, read sign by sign. Three of the closed facts of a claim read this row. The kernel reads a long text by its signs far more cheaply than through its bytes, so the three are laid here once, out of the list of its words.
-/
import Derived.Test.YtipgbbhgmoehfaaDoorRows
import Derived.JoinedOf
import Derived.KernelRfl
namespace Go.Proofs.YtipgbbhgmoehfaaDoor
open Go
set_option maxRecDepth 1000000
theorem make_of {P : Program} {rest : List (List Char)} (h : behindMainWord (wordsSigns P.initOrder.toList) = "cut".toList :: rest) : P.make = some .cut := by
  unfold Program.make
  rw [h]
  rfl
theorem finals_of {P : Program} {rest : List (List Char)} (h : behindMainWord (wordsSigns P.initOrder.toList) = "cut".toList :: rest) : P.liftsFinal = false := by
  unfold Program.liftsFinal Program.headLifts
  rw [h]
  rfl
theorem enter_of {P : Program} {rest : List (List Char)} (h : behindMainWord (wordsSigns P.initOrder.toList) = "cut".toList :: rest)
    (h1 : P.laysLater = false) (h2 : P.bearsReflect = false) (h3 : P.doorFits [] = true) : P.mayEnter = true := by
  have e : stripLifts liftWords ("cut".toList :: rest) = ([], "cut".toList :: rest) := rfl
  unfold Program.mayEnter
  rw [h]
  simp only [e, h1, h2, h3]
  rfl
def orderSigns : List Char := List.map Char.ofNat [104, 97, 114, 110, 101, 115, 115, 32, 48, 48, 98, 56, 100, 55, 57, 101, 51, 50, 51, 98, 57, 54, 56, 99, 101, 51, 56, 101, 55, 97, 53, 102, 100, 48, 52, 102, 100, 54, 50, 53, 49, 102, 50, 54, 50, 57, 97, 99, 52, 52, 56, 54, 97, 48, 53, 57, 54, 98, 51, 53, 57, 101, 55, 52, 99, 49, 99, 56, 56, 52, 55, 50, 32, 99, 117, 116, 32, 97, 116, 32, 115, 101, 101, 112, 97, 103, 101, 47, 115, 101, 101, 112, 97, 103, 101, 116, 111, 112, 46, 84, 111, 112, 76, 105, 110, 107, 97, 103, 101]
def orderRest : List (List Char) := [List.map Char.ofNat [97, 116],
  List.map Char.ofNat [115, 101, 101, 112, 97, 103, 101, 47, 115, 101, 101, 112, 97, 103, 101, 116, 111, 112, 46, 84, 111, 112, 76, 105, 110, 107, 97, 103, 101]]
theorem order_is : Tryd.checked.prog.initOrder = String.ofList orderSigns := by kernel_rfl
theorem order_list : Tryd.checked.prog.initOrder.toList = orderSigns := by rw [order_is]; exact String.toList_ofList
theorem order_words : behindMainWord (wordsSigns orderSigns) = "cut".toList :: orderRest := by kernel_rfl
theorem order_behind : behindMainWord (wordsSigns Tryd.checked.prog.initOrder.toList) = "cut".toList :: orderRest := by rw [order_list]; exact order_words
theorem order_make : Tryd.checked.prog.make = some .cut := make_of order_behind
theorem order_finals : Tryd.checked.prog.liftsFinal = false := finals_of order_behind
theorem order_enter : Tryd.checked.prog.mayEnter = true := enter_of order_behind (by kernel_rfl) (by kernel_rfl) (by kernel_rfl)
theorem both_true {a b : Bool} (h : a = true) (k : b = true) : (a && b) = true := by rw [h, k]; rfl
end Go.Proofs.YtipgbbhgmoehfaaDoor
