import Derived.Test.YtbafacdknaopjaaYE2
/-
  Three rows of numbers that grow side by side.
-/
namespace Go.Proofs.Ytbafacdknaopjaa
open Go.RowKit
set_option linter.unusedSimpArgs false
set_option linter.unusedSectionVars false

/-- Three rows of numbers, each in a block of its own. -/
structure Tri3 (w W : World) (ta : TypeId) (ka : Nat) (va : Value) (fa : Nat → Int) (tb : TypeId) (kb : Nat) (vb : Value) (fb : Nat → Int) (tc : TypeId) (kc : Nat) (vc : Value) (fc : Nat → Int) : Prop where
  a : W.ownsRow w.heap.size ta 1 va ka (intsL fa ka)
  b : W.ownsRow w.heap.size tb 1 vb kb (intsL fb kb)
  c : W.ownsRow w.heap.size tc 1 vc kc (intsL fc kc)
  ab : ∀ g, va.ownBlock = some g → vb.ownBlock = some g → False
  bc : ∀ g, vb.ownBlock = some g → vc.ownBlock = some g → False
  ca : ∀ g, vc.ownBlock = some g → va.ownBlock = some g → False
  bel : Below w.heap.size w W
section
variable {w W : World} {ta tb tc : TypeId} {ka kb kc : Nat} {va vb vc : Value} {fa fb fc : Nat → Int}
theorem Tri3.rot (h : Tri3 w W ta ka va fa tb kb vb fb tc kc vc fc) : Tri3 w W tb kb vb fb tc kc vc fc ta ka va fa := ⟨h.b, h.c, h.a, h.bc, h.ca, h.ab, h.bel⟩
theorem Tri3.nil (w : World) {W : World} (hB : Below w.heap.size w W) (ta tb tc : TypeId) (fa fb fc : Nat → Int) : Tri3 w W ta 0 (.slice none 0 0) fa tb 0 (.slice none 0 0) fb tc 0 (.slice none 0 0) fc :=
  ⟨World.ownsRow_nil _ _ _ _, World.ownsRow_nil _ _ _ _, World.ownsRow_nil _ _ _ _, fun _ h => by simp [Value.ownBlock] at h, fun _ h => by simp [Value.ownBlock] at h, fun _ h => by simp [Value.ownBlock] at h, hB⟩
theorem Tri3.only (h : Tri3 w W ta ka va fa tb kb vb fb tc kc vc fc) {W' : World} (k : Only [] W W') : Tri3 w W' ta ka va fa tb kb vb fb tc kc vc fc :=
  ⟨owns_only h.a k, owns_only h.b k, owns_only h.c k, h.ab, h.bc, h.ca, h.bel.trans (k.toBelow.mono h.bel.size)⟩
theorem Tri3.alloc (h : Tri3 w W ta ka va fa tb kb vb fb tc kc vc fc) (o : Obj) : Tri3 w (W.alloc o) ta ka va fa tb kb vb fb tc kc vc fc := h.only ((Only.refl [] W).alloc o)
theorem Tri3.step (h : Tri3 w W ta ka va fa tb kb vb fb tc kc vc fc) {w1 : World} {v' : Value} {tmp : Obj} (h1 : w1.ownsRow w.heap.size ta 1 v' (ka + 1) (intsL fa ka ++ [.int .i64 (fa ka)])) (hg : (W.alloc tmp).grownBy w1 va.ownBlock) (hat : v'.ownBlock = va.ownBlock ∨ v'.ownBlock = some (W.alloc tmp).heap.size) :
    Tri3 w w1 ta (ka + 1) v' fa tb kb vb fb tc kc vc fc := by
  have nb : vb.ownBlock = none ∨ vb.ownBlock ≠ va.ownBlock := by
    cases hb : vb.ownBlock with
    | none => exact .inl rfl
    | some g => exact .inr fun e => h.ab g e.symm hb
  have nc : vc.ownBlock = none ∨ vc.ownBlock ≠ va.ownBlock := by
    cases hc : vc.ownBlock with
    | none => exact .inl rfl
    | some g => exact .inr fun e => h.ca g hc e.symm
  have hs : W.heap.size ≤ (W.alloc tmp).heap.size := by rw [World.size_alloc]; omega
  refine ⟨by rw [intsL_succ]; exact h1, (h.b.alloc tmp).kept hg nb, (h.c.alloc tmp).kept hg nc, fun g e1 e2 => ?_, h.bc, fun g e1 e2 => ?_, below_append h.bel h.a hg⟩
  · rcases hat with e | e
    · exact h.ab g (e ▸ e1) e2
    · rw [e] at e1
      have := (h.b.lt g e2).2
      cases e1
      omega
  · rcases hat with e | e
    · exact h.ca g e1 (e ▸ e2)
    · rw [e] at e2
      have := (h.c.lt g e1).2
      cases e2
      omega
end
/-- Three results that can be read. -/
structure Trio (w w' : World) (r : Nat) (va vb vc : Value) (fa fb fc : Nat → Int) : Prop where
  a : ∃ A c, va = .slice A r c ∧ IntsIn w' .i64 A r fa
  b : ∃ A c, vb = .slice A r c ∧ IntsIn w' .i64 A r fb
  c : ∃ A c, vc = .slice A r c ∧ IntsIn w' .i64 A r fc
  only : Only [] w w'
theorem Tri3.trio {w W : World} {ta tb tc : TypeId} {r : Nat} {va vb vc : Value} {fa fb fc : Nat → Int} (h : Tri3 w W ta r va fa tb r vb fb tc r vc fc) (hw : ∀ j, j < r → (Lit.int .i64 (fa j)).wf = true ∧ (Lit.int .i64 (fb j)).wf = true ∧ (Lit.int .i64 (fc j)).wf = true) : Trio w W r va vb vc fa fb fc :=
  ⟨ints_owned3 h.a fun j hj => (hw j hj).1, ints_owned3 h.b fun j hj => (hw j hj).2.1, ints_owned3 h.c fun j hj => (hw j hj).2.2, only_of_below' h.bel⟩

end Go.Proofs.Ytbafacdknaopjaa
