/-
  Trees of the bag: where they lie, and the contract of sizes.
-/
import Derived.Test.YtbafacdknaopjaaRows
import Derived.WalkKit
import Derived.WalkSpells
import Derived.WalkLawsBesides
import Derived.BigQuiet
import Derived.Laws.BitsAllLaws
import Derived.Lib.Hide
namespace Go.Proofs.Ytbafacdknaopjaa
open Go.RowKit

/-- A tree with the blocks of its nodes. -/
inductive T where
  | leaf
  | node (g : Nat) (l : T) (x : Int) (t : Nat) (r : T)
namespace T
def sz : T → Nat
  | leaf => 0
  | node _ l _ t r => t + l.sz + r.sz
def ds : T → Nat
  | leaf => 0
  | node _ l _ _ r => 1 + l.ds + r.ds
def ht : T → Nat
  | leaf => 0
  | node _ l _ _ r => max l.ht r.ht + 1
def addr : T → Option Addr
  | leaf => none
  | node g _ _ _ _ => some ⟨g, 0, none⟩
abbrev ptr (t : T) : Value := .pointer t.addr
def blocks : T → List Nat
  | leaf => []
  | node g l _ _ r => g :: (l.blocks ++ r.blocks)
def cells (l : T) (x : Int) (t : Nat) (r : T) (s d h : Int) : Array Value := #[l.ptr, r.ptr, .int .i64 x, .int .i64 t, .int .i64 s, .int .i64 d, .int .i64 h]
/-- The tree lies in a world. -/
def At (W : World) : T → Prop
  | leaf => True
  | node g l x t r => W.heap[g]? = some (.cells (cells l x t r ((t + l.sz + r.sz : Nat) : Int) ((1 + l.ds + r.ds : Nat) : Int) ((max l.ht r.ht + 1 : Nat) : Int)) 194 (0, 0)) ∧ At W l ∧ At W r
end T

theorem cell_of_heap {W : World} {g i : Nat} {cs : Array Value} {t : TypeId} {v : Value} (h : W.heap[g]? = some (.cells cs t (0, 0))) (hv : cs[i]? = some v) : W.cell? ⟨g, i, none⟩ = some v := by
  simp [World.cell?, h, hv]
theorem frozen_of_heap {W : World} {g i : Nat} {cs : Array Value} {t : TypeId} (h : W.heap[g]? = some (.cells cs t (0, 0))) : W.frozen? ⟨g, i, none⟩ = false := by
  simp [World.frozen?, h]

set_option maxRecDepth 100000 in
set_option maxHeartbeats 1000000 in
theorem sizes_any (t : T) (w : World) (h : t.At w) :
    Calls Try.prog 163 #[t.ptr] w fun e w' => e = .returned (.tuple #[.int .i64 t.sz, .int .i64 t.ds, .int .i64 t.ht]) ∧ ∃ n, w' = w.drewN n := by
  cases t with
  | leaf =>
    show Calls Try.prog 163 #[.pointer none] w _
    go_enter Try.func163, Try.ntmps163
    go_wp2
    go_ret3
    exact ⟨rfl, 0, rfl⟩
  | node g l x t r =>
    obtain ⟨h1, _, _⟩ := h
    have c4 := cell_of_heap (i := 4) h1 rfl
    have c5 := cell_of_heap (i := 5) h1 rfl
    have c6 := cell_of_heap (i := 6) h1 rfl
    clear h1
    show Calls Try.prog 163 #[.pointer (some ⟨g, 0, none⟩)] w _
    go_enter Try.func163, Try.ntmps163
    go_wp2
    go_quiet (fail)
    go_wp2
    go_ret3
    exact ⟨rfl, nq, rfl⟩
end Go.Proofs.Ytbafacdknaopjaa
