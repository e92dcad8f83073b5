/-
  The order row of the program, read sign by sign. Three of the closed facts of a claim read this row. The kernel reads a long text by its signs far more cheaply than through its bytes, so the three are laid here once, out of the list of its words.
-/
import Derived.Test.YtldodcojkdanjaaRows
import Derived.JoinedOf
import Derived.KernelRfl
namespace Go.Proofs.Ytldodcojkdanjaa
open Go
set_option maxRecDepth 1000000
theorem make_of {P : Program} {rest : List (List Char)} (h : behindMainWord (wordsSigns P.initOrder.toList) = "cut".toList :: rest) : P.make = some .cut := by
  unfold Program.make
  rw [h]
  rfl
theorem finals_of {P : Program} {rest : List (List Char)} (h : behindMainWord (wordsSigns P.initOrder.toList) = "cut".toList :: rest) : P.liftsFinal = false := by
  unfold Program.liftsFinal Program.headLifts
  rw [h]
  rfl
theorem enter_of {P : Program} {rest : List (List Char)} (h : behindMainWord (wordsSigns P.initOrder.toList) = "cut".toList :: rest)
    (h1 : P.laysLater = false) (h2 : P.bearsReflect = false) (h3 : P.doorFits [] = true) : P.mayEnter = true := by
  have e : stripLifts liftWords ("cut".toList :: rest) = ([], "cut".toList :: rest) := rfl
  unfold Program.mayEnter
  rw [h]
  simp only [e, h1, h2, h3]
  rfl
def orderSigns : List Char := List.map Char.ofNat [104, 97, 114, 110, 101, 115, 115, 32, 101, 97, 51, 53, 100, 57, 101, 56, 51, 49, 54, 57, 100, 100, 51, 100, 97, 55, 101, 101, 51, 57, 49, 98, 98, 50, 51, 98, 51, 100, 50, 56, 56, 51, 51, 53, 99, 49, 97, 49, 101, 99, 48, 53, 56, 50, 98, 57, 53, 54, 101, 55, 50, 48, 99, 100, 102, 101, 53, 102, 98, 53, 56, 101, 32, 99, 117, 116, 32, 97, 116, 32, 115, 101, 101, 112, 97, 103, 101, 47, 115, 101, 101, 112, 97, 103, 101, 108, 97, 119, 48, 54, 46, 66, 97, 103, 82, 97, 110, 107, 115, 32, 115, 101, 101, 112, 97, 103, 101, 47, 115, 101, 101, 112, 97, 103, 101, 108, 97, 119, 48, 54, 46, 66, 97, 103, 83, 109, 97, 108, 108, 32, 115, 101, 101, 112, 97, 103, 101, 47, 115, 101, 101, 112, 97, 103, 101, 108, 97, 119, 48, 54, 46, 66, 97, 103, 83, 111, 114, 116, 115, 32, 115, 101, 101, 112, 97, 103, 101, 47, 115, 101, 101, 112, 97, 103, 101, 108, 97, 119, 48, 54, 46, 66, 97, 103, 79, 114, 100, 101, 114, 32, 115, 101, 101, 112, 97, 103, 101, 47, 115, 101, 101, 112, 97, 103, 101, 108, 97, 119, 48, 54, 46, 66, 97, 103, 85, 110, 100, 111, 32, 115, 101, 101, 112, 97, 103, 101, 47, 115, 101, 101, 112, 97, 103, 101, 108, 97, 119, 48, 54, 46, 66, 97, 103, 67, 111, 112, 105, 101, 115, 32, 115, 101, 101, 112, 97, 103, 101, 47, 115, 101, 101, 112, 97, 103, 101, 108, 97, 119, 48, 54, 46, 66, 97, 103, 78, 105, 108]
def orderRest : List (List Char) := [List.map Char.ofNat [97, 116],
  List.map Char.ofNat [115, 101, 101, 112, 97, 103, 101, 47, 115, 101, 101, 112, 97, 103, 101, 108, 97, 119, 48, 54, 46, 66, 97, 103, 82, 97, 110, 107, 115],
  List.map Char.ofNat [115, 101, 101, 112, 97, 103, 101, 47, 115, 101, 101, 112, 97, 103, 101, 108, 97, 119, 48, 54, 46, 66, 97, 103, 83, 109, 97, 108, 108],
  List.map Char.ofNat [115, 101, 101, 112, 97, 103, 101, 47, 115, 101, 101, 112, 97, 103, 101, 108, 97, 119, 48, 54, 46, 66, 97, 103, 83, 111, 114, 116, 115],
  List.map Char.ofNat [115, 101, 101, 112, 97, 103, 101, 47, 115, 101, 101, 112, 97, 103, 101, 108, 97, 119, 48, 54, 46, 66, 97, 103, 79, 114, 100, 101, 114],
  List.map Char.ofNat [115, 101, 101, 112, 97, 103, 101, 47, 115, 101, 101, 112, 97, 103, 101, 108, 97, 119, 48, 54, 46, 66, 97, 103, 85, 110, 100, 111],
  List.map Char.ofNat [115, 101, 101, 112, 97, 103, 101, 47, 115, 101, 101, 112, 97, 103, 101, 108, 97, 119, 48, 54, 46, 66, 97, 103, 67, 111, 112, 105, 101, 115],
  List.map Char.ofNat [115, 101, 101, 112, 97, 103, 101, 47, 115, 101, 101, 112, 97, 103, 101, 108, 97, 119, 48, 54, 46, 66, 97, 103, 78, 105, 108]]
theorem order_is : Try.checked.prog.initOrder = String.ofList orderSigns := by kernel_rfl
theorem order_list : Try.checked.prog.initOrder.toList = orderSigns := by rw [order_is]; exact String.toList_ofList
theorem order_words : behindMainWord (wordsSigns orderSigns) = "cut".toList :: orderRest := by kernel_rfl
theorem order_behind : behindMainWord (wordsSigns Try.checked.prog.initOrder.toList) = "cut".toList :: orderRest := by rw [order_list]; exact order_words
theorem order_make : Try.checked.prog.make = some .cut := make_of order_behind
theorem order_finals : Try.checked.prog.liftsFinal = false := finals_of order_behind
theorem order_enter : Try.checked.prog.mayEnter = true := enter_of order_behind (by kernel_rfl) (by kernel_rfl) (by kernel_rfl)
theorem both_true {a b : Bool} (h : a = true) (k : b = true) : (a && b) = true := by rw [h, k]; rfl
end Go.Proofs.Ytldodcojkdanjaa
