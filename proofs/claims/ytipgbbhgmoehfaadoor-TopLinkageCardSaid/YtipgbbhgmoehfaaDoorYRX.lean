import Derived.Test.YtipgbbhgmoehfaaDoorYRM
import Derived.Test.YtipgbbhgmoehfaaDoorYK
/-
  Three boxes: two of one cell, one of two cells.
-/
namespace Go.Proofs.YtipgbbhgmoehfaaDoor
open Go.RowKit Go.Shelf
set_option linter.unusedSimpArgs false
set_option linter.unusedVariables false

/-- What lies in three boxes. -/
structure Boxes3 (W : World) (Ba Bb Bl : Nat) (t tf : TypeId) (a b l0 l1 : Value) : Prop where
  ha : W.heap[Ba]? = some (.cells #[a] t (0, 0))
  hb : W.heap[Bb]? = some (.cells #[b] t (0, 0))
  hl : W.heap[Bl]? = some (.cells #[l0, l1] tf (0, 0))
/-- The way from W to W' touched these boxes alone. -/
structure Bx (W W' : World) (Ba Bb Bl : Nat) (t tf : TypeId) (a b l0 l1 : Value) : Prop where
  box : Boxes3 W' Ba Bb Bl t tf a b l0 l1
  only : Only [Ba, Bb, Bl] W W'
  keeps : KeepsOthers W W'
section
variable {W W' : World} {Ba Bb Bl : Nat} {t tf : TypeId} {a b l0 l1 : Value}
theorem Bx.start (h : Boxes3 W Ba Bb Bl t tf a b l0 l1) : Bx W W Ba Bb Bl t tf a b l0 l1 := ⟨h, Only.refl _ _, KeepsOthers.refl _⟩
theorem Boxes3.only (h : Boxes3 W Ba Bb Bl t tf a b l0 l1) (hO : Only [] W W') : Boxes3 W' Ba Bb Bl t tf a b l0 l1 :=
  ⟨(hO.block _ (heap_lt h.ha) (by simp)).trans h.ha, (hO.block _ (heap_lt h.hb) (by simp)).trans h.hb, (hO.block _ (heap_lt h.hl) (by simp)).trans h.hl⟩
theorem Bx.calm {W2 : World} (h : Bx W W' Ba Bb Bl t tf a b l0 l1) (hO : Only [] W' W2) : Bx W W2 Ba Bb Bl t tf a b l0 l1 :=
  ⟨h.box.only hO, h.only.trans (hO.mono (by simp)), h.keeps.trans (KeepsOthers.of_only hO)⟩
theorem Bx.seta (hab : ¬ Ba = Bb) (hal : ¬ Ba = Bl) (v : Value) (h : Bx W W' Ba Bb Bl t tf a b l0 l1) : Bx W (W'.setCell ⟨Ba, 0, none⟩ v) Ba Bb Bl t tf v b l0 l1 :=
  ⟨⟨heap_setCell_same _ _ 0 _ _ v h.box.ha, (heap_setCell_other _ ⟨Ba, 0, none⟩ _ v (fun e => hab e.symm)).trans h.box.hb, (heap_setCell_other _ ⟨Ba, 0, none⟩ _ v (fun e => hal e.symm)).trans h.box.hl⟩,
    h.only.setCell (g := Ba) (i := 0) (by simp) v, h.keeps.trans (KeepsOthers.setCell _ _ _)⟩
theorem Bx.setb (hab : ¬ Ba = Bb) (hbl : ¬ Bb = Bl) (v : Value) (h : Bx W W' Ba Bb Bl t tf a b l0 l1) : Bx W (W'.setCell ⟨Bb, 0, none⟩ v) Ba Bb Bl t tf a v l0 l1 :=
  ⟨⟨(heap_setCell_other _ ⟨Bb, 0, none⟩ _ v hab).trans h.box.ha, heap_setCell_same _ _ 0 _ _ v h.box.hb, (heap_setCell_other _ ⟨Bb, 0, none⟩ _ v (fun e => hbl e.symm)).trans h.box.hl⟩,
    h.only.setCell (g := Bb) (i := 0) (by simp) v, h.keeps.trans (KeepsOthers.setCell _ _ _)⟩
theorem Bx.setl (hal : ¬ Ba = Bl) (hbl : ¬ Bb = Bl) (v v' : Value) (h : Bx W W' Ba Bb Bl t tf a b l0 l1) : Bx W ((W'.setCell ⟨Bl, 0, none⟩ v).setCell ⟨Bl, 1, none⟩ v') Ba Bb Bl t tf a b v v' :=
  ⟨⟨(heap_setCell_other _ ⟨Bl, 1, none⟩ _ v' hal).trans ((heap_setCell_other _ ⟨Bl, 0, none⟩ _ v hal).trans h.box.ha), (heap_setCell_other _ ⟨Bl, 1, none⟩ _ v' hbl).trans ((heap_setCell_other _ ⟨Bl, 0, none⟩ _ v hbl).trans h.box.hb),
      heap_setCell_same _ _ 1 _ _ v' (heap_setCell_same _ _ 0 _ _ v h.box.hl)⟩,
    (h.only.setCell (g := Bl) (i := 0) (by simp) v).setCell (g := Bl) (i := 1) (by simp) v', (h.keeps.trans (KeepsOthers.setCell _ _ _)).trans (KeepsOthers.setCell _ _ _)⟩
theorem Bx.drewN (n : Nat) (h : Bx W W' Ba Bb Bl t tf a b l0 l1) : Bx W (W'.drewN n) Ba Bb Bl t tf a b l0 l1 := h.calm ((Only.refl [] _).drewN n)
theorem Bx.drew (h : Bx W W' Ba Bb Bl t tf a b l0 l1) : Bx W W'.drew Ba Bb Bl t tf a b l0 l1 := h.calm ((Only.refl [] _).drewN 1)
end
theorem boxes_new {w W : World} {t tf : TypeId} {x y l0 l1 : Value} (e : ((w.alloc (.cells #[x] t)).alloc (.cells #[y] t)).alloc (.cells #[l0, l1] tf) = W) :
    Boxes3 W w.heap.size (w.heap.size + 1) (w.heap.size + 1 + 1) t tf x y l0 l1 ∧ Only [] w W ∧ W.heap.size = w.heap.size + 3 := by
  have hs1 : (w.alloc (.cells #[x] t)).heap.size = w.heap.size + 1 := World.size_alloc _ _
  have hs2 : ((w.alloc (.cells #[x] t)).alloc (.cells #[y] t)).heap.size = w.heap.size + 1 + 1 := by rw [World.size_alloc, hs1]
  have a1 : ((w.alloc (.cells #[x] t)).alloc (.cells #[y] t)).heap[w.heap.size]? = some (.cells #[x] t (0, 0)) := (Below.heap_alloc _ _ _ (by omega)).trans (heap_alloc_new w _)
  have b1 : ((w.alloc (.cells #[x] t)).alloc (.cells #[y] t)).heap[w.heap.size + 1]? = some (.cells #[y] t (0, 0)) := by
    have := heap_alloc_new (w.alloc (.cells #[x] t)) (.cells #[y] t)
    rwa [hs1] at this
  have hO2 : Only [] w ((w.alloc (.cells #[x] t)).alloc (.cells #[y] t)) := ((Only.refl [] w).alloc _).alloc _
  subst e
  refine ⟨⟨(Below.heap_alloc _ _ _ (by omega)).trans a1, (Below.heap_alloc _ _ _ (by omega)).trans b1, ?_⟩, hO2.alloc _, by rw [World.size_alloc, hs2]⟩
  have := heap_alloc_new ((w.alloc (.cells #[x] t)).alloc (.cells #[y] t)) (.cells #[l0, l1] tf)
  rwa [hs2] at this

end Go.Proofs.YtipgbbhgmoehfaaDoor
