import Derived.Test.YtipgbbhgmoehfaaDoorYRX
import Derived.Test.YtipgbbhgmoehfaaDoorYDM
/-
  linkage.Run: one more merge; the nearest two clusters so far.
-/
namespace Go.Proofs.YtipgbbhgmoehfaaDoor
open Go.RowKit Go.Shelf
set_option linter.unusedSimpArgs false
set_option linter.unusedVariables false

theorem merge_more {W : World} {base t cp : Nat} {A : Option Addr} {L : List Value} (h : W.ownsRow base 46 5 (.slice A t cp) t L) (ht : t ≤ 4096) (a b hh s : Int) (hb : base ≤ W.heap.size) (ty : TypeId) :
    ∃ A' cp' W', (Builtin.append_ #[36, 36] ty #[.slice A t cp, .slice (some ⟨W.heap.size, 0, none⟩) 1 1]).run Tryd.prog (W.alloc (.cells #[.int .i64 a, .int .i64 b, .int .i64 hh, .int .i64 1, .int .i64 s] 46)) = .ok (.slice A' (t + 1) cp') W' ∧
      W'.ownsRow base 46 5 (.slice A' (t + 1) cp') (t + 1) (L ++ [.int .i64 a, .int .i64 b, .int .i64 hh, .int .i64 1, .int .i64 s]) ∧ (∀ gs w0, Only gs w0 W → w0.heap.size ≤ base → Only gs w0 W') ∧ KeepsOthers W W' ∧ ∀ k, k < base → W'.heap[k]? = W.heap[k]? := by
  obtain ⟨i1, gi, gz0, gz1, gz2⟩ := info_parts infoMg
  obtain ⟨v', w', hrun, hown', hgrow, _, hat⟩ := run_append_own_at (P := Tryd.prog) (w := W.alloc (.cells #[.int .i64 a, .int .i64 b, .int .i64 hh, .int .i64 1, .int .i64 s] 46)) base 36 ty 46 i1 (.agg #[.int .i64 0, .int .i64 0, .int .i64 0, .int .i64 0, .int .i64 0]) 5 40 Tryd.underlying36 gi gz0 gz1 gz2 rfl (by decide) (.slice A t cp) t L (h.alloc _) ⟨W.heap.size, 0, none⟩ 1 1 [.int .i64 a, .int .i64 b, .int .i64 hh, .int .i64 1, .int .i64 s] rfl (cell_five_new W _ _ _ _ _ _) (by simp [Value.oneCell']) (by unfold maxLen; omega) (by omega) (by simp; omega)
  have hs1 : (W.alloc (.cells #[.int .i64 a, .int .i64 b, .int .i64 hh, .int .i64 1, .int .i64 s] 46)).heap.size = W.heap.size + 1 := World.size_alloc _ _
  have hlt := h.lt
  have hkeep : KeepsOthers W w' := (KeepsOthers.alloc W _).trans (KeepsOthers.of_grownBy hgrow (fun j o hj ho => by
    have h2 := (h.alloc (.cells #[.int .i64 a, .int .i64 b, .int .i64 hh, .int .i64 1, .int .i64 s] 46))
    obtain ⟨_, ⟨e, _⟩ | ⟨g, cap, cur, e, _, hh', _⟩⟩ := h2
    · cases e; simp [Value.ownBlock] at hj
    · cases e
      simp [Value.ownBlock] at hj
      subst hj
      rw [hh'] at ho
      cases ho
      rfl))
  have hon : ∀ gs w0, Only gs w0 W → w0.heap.size ≤ base → Only gs w0 w' := fun gs w0 hO hle => by
    refine ⟨hgrow.os.trans hO.os, hgrow.tape.trans hO.tape, hgrow.output.trans hO.output, ?_, fun k hk hn => ?_⟩
    · have := hgrow.size
      have := hO.size
      omega
    · have hkw := Nat.lt_of_lt_of_le hk hO.size
      have e1 := hgrow.block k (by omega) (fun e => by have := (hlt k e.symm).1; omega)
      rw [e1]
      exact (Below.heap_alloc _ _ _ hkw).trans (hO.block k hk hn)
  have hlow : ∀ k, k < base → w'.heap[k]? = W.heap[k]? := fun k hk => by
    rw [hgrow.block k (by omega) (fun e => by have := (hlt k e.symm).1; omega)]
    exact Below.heap_alloc _ _ _ (by omega)
  obtain ⟨hl, ⟨e, h0⟩ | ⟨g, cap, cur, e, rest⟩⟩ := hown'
  · omega
  · subst e
    exact ⟨some ⟨g, 0, none⟩, cap, w', hrun, ⟨hl, .inr ⟨g, cap, cur, rfl, rest⟩⟩, hon, hkeep, hlow⟩

/-- The nearest two clusters among those that have come. -/
def PI (w8 : World) (Ba Bb Bl n : Nat) (S : Nat → Nat) (Bt : Nat → Nat → Int) (xs : List (Nat × Nat)) (W : World) : Prop :=
  Only [Ba, Bb, Bl] w8 W ∧ ((xs = [] ∧ Boxes3 W Ba Bb Bl 3 44 (.int .i64 (-1)) (.int .i64 (-1)) (.int .i64 0) (.int .i64 0)) ∨
    (xs ≠ [] ∧ ∃ a b z : Nat, a < b ∧ b < n ∧ S a ≠ 0 ∧ S b ≠ 0 ∧ Bt a b = (z : Int) ∧ (∀ y, y ∈ xs → Bt a b ≤ Bt y.1 y.2) ∧ Boxes3 W Ba Bb Bl 3 44 (.int .i64 a) (.int .i64 b) (.int .i64 z) (.int .i64 1)))
theorem PI.own {w8 : World} {Ba Bb Bl n B : Nat} {S : Nat → Nat} {Bt : Nat → Nat → Int} (hB : w8.heap.size ≤ B) (ha : Ba < w8.heap.size) (hb : Bb < w8.heap.size) (hl : Bl < w8.heap.size) : OwnFrom B (PI w8 Ba Bb Bl n S Bt) := by
  intro xs A C row ⟨hO, h⟩ hg' hr
  have kb : ∀ k, k < w8.heap.size → C.heap[k]? = A.heap[k]? := fun k hk => hg'.block k (Nat.lt_of_lt_of_le hk hO.size) (fun e => by have := (hr k e.symm).1; omega)
  have hbx : ∀ {a b l0 l1 : Value}, Boxes3 A Ba Bb Bl 3 44 a b l0 l1 → Boxes3 C Ba Bb Bl 3 44 a b l0 l1 := fun hx => ⟨(kb _ ha).trans hx.ha, (kb _ hb).trans hx.hb, (kb _ hl).trans hx.hl⟩
  refine ⟨⟨hg'.os.trans hO.os, hg'.tape.trans hO.tape, hg'.output.trans hO.output, Nat.le_trans hO.size hg'.size, fun k hk hn => (kb k hk).trans (hO.block k hk hn)⟩, ?_⟩
  rcases h with ⟨e, hx⟩ | ⟨e, a, b, z, h1, h2, h3, h4, h5, h6, hx⟩
  · exact .inl ⟨e, hbx hx⟩
  · exact .inr ⟨e, a, b, z, h1, h2, h3, h4, h5, h6, hbx hx⟩
/-- The one that came is nearer. -/
theorem PI.take {w8 W W' : World} {Ba Bb Bl n x y z' : Nat} {S : Nat → Nat} {Bt : Nat → Nat → Int} {xs : List (Nat × Nat)} (h : PI w8 Ba Bb Bl n S Bt xs W) (hxy : x < y) (hy : y < n) (hx : S x ≠ 0) (hy2 : S y ≠ 0) (hz : Bt x y = (z' : Int))
    (hlt : ∀ a b z : Nat, Boxes3 W Ba Bb Bl 3 44 (.int .i64 a) (.int .i64 b) (.int .i64 z) (.int .i64 1) → z' ≤ z) (hb : Bx W W' Ba Bb Bl 3 44 (.int .i64 x) (.int .i64 y) (.int .i64 z') (.int .i64 1)) : PI w8 Ba Bb Bl n S Bt (xs ++ [(x, y)]) W' := by
  refine ⟨h.1.trans hb.only, .inr ⟨by simp, x, y, z', hxy, hy, hx, hy2, hz, fun q hq => ?_, hb.box⟩⟩
  rcases List.mem_append.1 hq with hq | hq
  · rcases h.2 with ⟨e, _⟩ | ⟨_, a, b, z, _, _, _, _, h5, h6, hbx⟩
    · rw [e] at hq; cases hq
    · have := h6 q hq
      have := hlt a b z hbx
      omega
  · rw [List.mem_singleton.1 hq]
    exact Int.le_refl _
/-- The one that came is not nearer. -/
theorem PI.stay {w8 W W' : World} {Ba Bb Bl n x y z' a b z : Nat} {S : Nat → Nat} {Bt : Nat → Nat → Int} {xs : List (Nat × Nat)} (hO : Only [Ba, Bb, Bl] w8 W) (h1 : a < b) (h2 : b < n) (h3 : S a ≠ 0) (h4 : S b ≠ 0) (h5 : Bt a b = (z : Int)) (h6 : ∀ y, y ∈ xs → Bt a b ≤ Bt y.1 y.2)
    (hz : Bt x y = (z' : Int)) (hle : z ≤ z') (hb : Bx W W' Ba Bb Bl 3 44 (.int .i64 a) (.int .i64 b) (.int .i64 z) (.int .i64 1)) : PI w8 Ba Bb Bl n S Bt (xs ++ [(x, y)]) W' := by
  refine ⟨hO.trans hb.only, .inr ⟨by simp, a, b, z, h1, h2, h3, h4, h5, fun q hq => ?_, hb.box⟩⟩
  rcases List.mem_append.1 hq with hq | hq
  · exact h6 q hq
  · rw [List.mem_singleton.1 hq]
    show Bt a b ≤ Bt x y
    omega

end Go.Proofs.YtipgbbhgmoehfaaDoor
