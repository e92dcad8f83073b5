import Derived.RangeFuncBox
import Derived.RangeFuncBound
import Derived.OwnWalkIn
import Derived.TacticsInMore
import Derived.Shelf.Abstract
import Derived.RangeFuncCalls
import Derived.Shelf.RegionOpen
import Derived.Test.YtipgbbhgmoehfaaDoorZ1
/-
  The contract of copy.
-/
namespace Go.Proofs.YtipgbbhgmoehfaaDoor
open Go.RowKit
set_option linter.unusedSimpArgs false

namespace T
/-- The same tree in other blocks. -/
def Like : T → T → Prop
  | leaf, leaf => True
  | node _ l x t r, node _ l' x' t' r' => x = x' ∧ t = t' ∧ Like l l' ∧ Like r r'
  | _, _ => False
theorem Like.all {a b : T} (h : Like a b) : b.items = a.items ∧ b.sz = a.sz ∧ b.ds = a.ds ∧ b.ht = a.ht := by
  induction a generalizing b with
  | leaf => cases b with
    | leaf => exact ⟨rfl, rfl, rfl, rfl⟩
    | node => exact h.elim
  | node g l x t r ihl ihr => cases b with
    | leaf => exact h.elim
    | node g' l' x' t' r' =>
      obtain ⟨rfl, rfl, h1, h2⟩ := h
      obtain ⟨a1, a2, a3, a4⟩ := ihl h1
      obtain ⟨b1, b2, b3, b4⟩ := ihr h2
      refine ⟨?_, ?_, ?_, ?_⟩ <;> simp only [items, sz, ds, ht, a1, a2, a3, a4, b1, b2, b3, b4]
end T

end Go.Proofs.YtipgbbhgmoehfaaDoor

/-
  The iterator over a bag.
-/
namespace Go.Proofs.YtipgbbhgmoehfaaDoor
open Go.RowKit Go.Shelf
attribute [local go_sem] Oper.semAt_some
set_option linter.unusedSimpArgs false

theorem Only.grown {A B : World} (h : Only [] A B) : A.grownBy B none := ⟨h.os, h.tape, h.output, h.size, fun k hk _ => h.block k hk (by simp)⟩
theorem cell_lt {w : World} {a : Addr} {v : Value} (h : w.cell? a = some v) : a.block < w.heap.size := by
  unfold World.cell? at h
  by_cases hb : a.block < w.heap.size
  · exact hb
  · rw [Array.getElem?_eq_none (by omega)] at h
    simp at h
theorem room_wide' (k : Nat) : Fence.wide.room k := fun d h => by cases h
theorem RoundIn.anyDepth' {m m' : Nat} {P : Program} {l : Nat} {f : FuncId} {tmps : Array Value} {assign body : Code} {w : World} {R : Ending → World → Prop}
    (h : RoundIn Fence.wide m P l f tmps assign body w R) : RoundIn Fence.wide m' P l f tmps assign body w R := ⟨h.1, fun c cs _ => h.2 c cs (room_wide' _)⟩
theorem YieldAt.anyDepth' {m : Nat} (m' : Nat) {P : Program} {l : Nat} {args : Array Value} {W : World} {R : Ending → World → Prop} (h : YieldAt Fence.wide m P l args W R) : YieldAt Fence.wide m' P l args W R := by
  obtain ⟨fn, tmps, assign, body, hy, hR⟩ := h
  exact ⟨fn, tmps, assign, body, hy, RoundIn.anyDepth' hR⟩

/-- How a round ends: with a bool. -/
def Ends (R : Bool → World → Prop) (e : Ending) (w : World) : Prop := ∃ b, e = .returned (.bool b) ∧ R b w

end Go.Proofs.YtipgbbhgmoehfaaDoor

/-
  A range over a function in the body of an iterator: the law, where the iterator's word on what a round keeps may speak of all loops' records but the law's own.
-/
namespace Go.Proofs.YtipgbbhgmoehfaaDoor
open Go.RowKit Go.Shelf
set_option linter.unusedSimpArgs false

/-- What a round of the loop with the record l keeps: the nodes and the yield functions' boxes; all records behind its own. -/
def KeepR (l : Nat) (W W' : World) : Prop := W.heap.size ≤ W'.heap.size ∧ ∀ (k : Nat) (o : Obj), l < k → W.heap[k]? = some o → o.isCells = false → W'.heap[k]? = some o
theorem keepR_trans {l : Nat} {A B C : World} (h : KeepR l A B) (k : KeepR l B C) : KeepR l A C := ⟨Nat.le_trans h.1 k.1, fun i o hl hi hc => k.2 i o hl (h.2 i o hl hi hc) hc⟩
theorem keepR_of {l : Nat} {A B : World} (h : KeepsOthers A B) : KeepR l A B := ⟨h.size, fun k o _ hk hc => h.same k o hk hc⟩
/-- The two blocks of a loop: its record, and the block for the rounds' deferred calls. -/
structure Book (B : Nat) (rec : LoopState → Option Code → Loop) (s : LoopState) (j : Option Code) (W : World) : Prop where
  loop : W.heap[B + 1]? = some (.loop (rec s j))
  defs : W.heap[B]? = some (.deferred (some []))
theorem Book.lt {B : Nat} {rec : LoopState → Option Code → Loop} {s : LoopState} {j : Option Code} {W : World} (h : Book B rec s j W) : B + 1 < W.heap.size := (Array.getElem?_eq_some_iff.1 h.loop).1
theorem Book.put {B : Nat} {rec : LoopState → Option Code → Loop} {s : LoopState} {j : Option Code} {W : World} (h : Book B rec s j W) (s' : LoopState) (j' : Option Code) : Book B rec s' j' (W.putObj (B + 1) (.loop (rec s' j'))) :=
  ⟨World.putObj_heap_same h.lt, (World.putObj_heap_other (by omega)).trans h.defs⟩
theorem Book.keep {B : Nat} {rec : LoopState → Option Code → Loop} {s : LoopState} {j : Option Code} {W W' : World} (h : Book B rec s j W) (k : KeepsOthers W W') : Book B rec s j W' := ⟨k.same _ _ h.loop rfl, k.same _ _ h.defs rfl⟩
theorem Book.own {B : Nat} {rec : LoopState → Option Code → Loop} {s : LoopState} {j : Option Code} (B1 : Nat) (hB : B + 1 < B1) : OwnFrom B1 (fun (_ : Items) W => Book B rec s j W) := fun _ W W' row h hg hr => by
  have hk : ∀ k, k ≤ B + 1 → some k ≠ row := fun k hk e => by have := (hr k e.symm).1; omega
  have h2 := h.lt
  exact ⟨(hg.block _ h2 (hk _ (Nat.le_refl _))).trans h.loop, (hg.block _ (by omega) (hk _ (by omega))).trans h.defs⟩

end Go.Proofs.YtipgbbhgmoehfaaDoor

/-
  A range over an iterator that does something of its own between two rounds: the law.
-/

namespace Go.Proofs.YtipgbbhgmoehfaaDoor
open Go.RowKit Go.Shelf
set_option linter.unusedSimpArgs false

/-- What a quiet step keeps: all blocks of cells, and all blocks below b. -/
structure KeepC (b : Nat) (W W' : World) : Prop where
  os : W'.os = W.os
  tape : W'.tape = W.tape
  output : W'.output = W.output
  size : W.heap.size ≤ W'.heap.size
  low : ∀ k, k < b → k < W.heap.size → W'.heap[k]? = W.heap[k]?
  cells : ∀ (k : Nat) (o : Obj), W.heap[k]? = some o → o.isCells = true → W'.heap[k]? = some o
theorem KeepC.of_only {b : Nat} {W W' : World} (h : Only [] W W') : KeepC b W W' :=
  ⟨h.os, h.tape, h.output, h.size, fun k _ hk => h.block k hk (by simp), fun k o hk _ => (h.block k (heap_lt hk) (by simp)).trans hk⟩
theorem KeepC.put {b : Nat} {W : World} {l : Nat} {o : Obj} (o' : Obj) (hl : b ≤ l) (h : W.heap[l]? = some o) (hc : o.isCells = false) : KeepC b W (W.putObj l o') := by
  refine ⟨rfl, rfl, rfl, by simp, fun k hk _ => World.putObj_heap_other (by omega), fun k o2 hk hc2 => ?_⟩
  have hne : k ≠ l := by
    rintro rfl
    rw [h] at hk
    cases hk
    rw [hc] at hc2
    cases hc2
  rw [World.putObj_heap_other hne]
  exact hk
theorem KeepC.onto {b : Nat} {w W W' : World} (h : Only [] w W) (k : KeepC b W W') (hb : w.heap.size ≤ b) : Only [] w W' :=
  ⟨k.os.trans h.os, k.tape.trans h.tape, k.output.trans h.output, Nat.le_trans h.size k.size, fun i hi hn => (k.low i (by omega) (Nat.lt_of_lt_of_le hi h.size)).trans (h.block i hi hn)⟩
/-- A record that abides quiet steps. -/
def Calm (b : Nat) (J : Nat → World → Prop) : Prop := ∀ j W W', J j W → KeepC b W W' → J j W'

/-- How the body of a round is left. -/
def stepEnd (I' : Nat → World → Prop) (j : Nat) (W : World) : Exit → Act → World → Prop
  | .normal, _, W' => KeepsOthers W W' ∧ I' j W'
  | _, _, _ => False

end Go.Proofs.YtipgbbhgmoehfaaDoor
