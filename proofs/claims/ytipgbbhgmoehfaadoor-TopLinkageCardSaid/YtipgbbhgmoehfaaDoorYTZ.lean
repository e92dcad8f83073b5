import Derived.Shelf.Spec.TrailingZeros
import Derived.Shelf.SlGeneric
import Derived.Test.YtipgbbhgmoehfaaDoorProg
/-
  DERIVED: THE SHELF's CONTRACTS AT THIS DUMP, IN PLAIN WORDS (tools/lay-plain.mjs out of 'YtipgbbhgmoehfaaDoorTZ.lean', which tools/lay-shelf.mjs wrote): THE SAME DECLARATIONS UNDER THE SAME NAMES: 'import', 'namespace', 'open', 'def', 'theorem' AND NOTHING ELSE: no command of the shelf's: FOR A HAND-IN. Each laying: the table of numbers ('.._ren') and one theorem, a field a fact of the dump's own or the kernel's comparison; each contract: ONE APPLICATION.
-/
namespace Go.Proofs
open Go.Shelf
def Tryd.tzL_ren : Go.Shelf.Ren := ⟨fun | 27 => 79 | 28 => 85 | 29 => 86 | n => n, fun | 25 => 130 | 3 => 3 | 27 => 146 | 22 => 115 | 4 => 4 | 53 => 157 | 0 => 0 | 5 => 5 | 54 => 158 | n => n, fun | 0 => 0 | 1 => 1 | n => n⟩
theorem Tryd.tzL : Go.Proofs.Lays7.n27 Tryd.prog Tryd.tzL_ren := {
  mixed := by kernel_rfl
  f27 := Tryd.func79.trans (congrArg some (by kernel_rfl))
  f28 := Tryd.func85.trans (congrArg some (by kernel_rfl))
  f29 := Tryd.func86.trans (congrArg some (by kernel_rfl))
  t0 := Tryd.underlying0
  a0 := Tryd.isAgg0
  z0 := Tryd.sizeOf0
  v0 := Tryd.zeroValue0
  i0 := by kernel_rfl
  t3 := Tryd.underlying3
  a3 := Tryd.isAgg3
  z3 := Tryd.sizeOf3
  v3 := Tryd.zeroValue3
  i3 := by kernel_rfl
  t4 := Tryd.underlying4
  a4 := Tryd.isAgg4
  z4 := Tryd.sizeOf4
  v4 := Tryd.zeroValue4
  i4 := by kernel_rfl
  t5 := Tryd.underlying5
  a5 := Tryd.isAgg5
  z5 := Tryd.sizeOf5
  v5 := Tryd.zeroValue5
  i5 := by kernel_rfl
  t22 := Tryd.underlying115
  a22 := Tryd.isAgg115
  z22 := Tryd.sizeOf115
  v22 := Tryd.zeroValue115
  i22 := by kernel_rfl
  t25 := Tryd.underlying130
  a25 := Tryd.isAgg130
  z25 := Tryd.sizeOf130
  v25 := Tryd.zeroValue130
  i25 := by kernel_rfl
  t27 := Tryd.underlying146
  a27 := Tryd.isAgg146
  z27 := Tryd.sizeOf146
  v27 := Tryd.zeroValue146
  i27 := by kernel_rfl
  t53 := Tryd.underlying157
  a53 := Tryd.isAgg157
  z53 := Tryd.sizeOf157
  v53 := Tryd.zeroValue157
  i53 := by kernel_rfl
  t54 := Tryd.underlying158
  a54 := Tryd.isAgg158
  z54 := Tryd.sizeOf158
  g0 := by kernel_rfl
  g1 := by kernel_rfl }

end Go.Proofs
