import Derived.Test.YtipgbbhgmoehfaaYJ
import Derived.Test.YtipgbbhgmoehfaaYF
import Derived.Test.YtipgbbhgmoehfaaYK
/-
  The reference of chapter 27: the error of a graph, orders, weights of 1.
-/
namespace Go.Proofs.Ytipgbbhgmoehfaa
open Go.RowKit
set_option linter.unusedSimpArgs false
set_option linter.unusedSectionVars false

theorem EdgesIn.drawn {w : World} {A : Option Addr} {n k : Nat} {u v x : Nat → Int} (h : EdgesIn w A n u v x) : EdgesIn (w.drewN k) A n u v x := h.only ((Only.refl [] w).drewN k)
theorem IntsIn.drawn {w : World} {k : IntKind} {A : Option Addr} {n m : Nat} {f : Nat → Int} (h : IntsIn w k A n f) : IntsIn (w.drewN m) k A n f := h.only ((Only.refl [] w).drewN m)

end Go.Proofs.Ytipgbbhgmoehfaa

/-
  The reference of chapter 27: the row of a graph, by least labels.
-/
namespace Go.Proofs.Ytipgbbhgmoehfaa
open Go.RowKit
set_option linter.unusedSimpArgs false
set_option linter.unusedSectionVars false

theorem squares_bound {n : Nat} {lab wt : Nat → Nat} (h : Labs n lab) (hT : total n wt ≤ 3037000499) : squares n lab wt ≤ 9223372036854775807 := by
  obtain ⟨T, h1, h2⟩ := sqL_le (l := setsL n lab wt) fun v hv => setsL_nonneg v hv
  rw [setsL_sum fun a ha => ⟨h.lt ha, (h a ha).2⟩] at h1
  rw [sqL_sets] at h2
  have h4 : T * T ≤ 3037000499 * 3037000499 := Nat.mul_le_mul (by omega) (by omega)
  omega
theorem sqTo_le {n k : Nat} (lab wt : Nat → Nat) (h : k ≤ n) : sqTo n k lab wt ≤ squares n lab wt := total_pre h _
theorem sumTo_le {n k : Nat} (lab wt : Nat → Nat) (x : Nat) (h : k ≤ n) : sumTo k lab wt x ≤ total n wt := Nat.le_trans (total_pre h _) (sumOf_le n lab wt x)
theorem bigTo_le {n k : Nat} (lab wt : Nat → Nat) : bigTo n k lab wt ≤ total n wt := by
  refine maxL_le (by omega) fun v hv => ?_
  obtain ⟨a, _, rfl⟩ := List.mem_map.1 hv
  have := sumOf_le n lab wt a
  omega
/-- The edges of the whole list. -/
def alls (p q : Nat → Nat) (m : Nat) : List (Nat × Nat) := eprs p q id m
theorem agrees_alls {p q : Nat → Nat} {m : Nat} {l : Nat → Nat} (h : ∀ j, j < m → l (p j) = l (q j)) : Agrees (eprs p q id m) l := by
  intro e he
  obtain ⟨i, hi, rfl⟩ := List.mem_map.1 he
  exact h i (List.mem_range.1 hi)
theorem labK_joins {p q o : Nat → Nat} {m j : Nat} (h : j < m) : labK p q o m (p (o j)) = labK p q o m (q (o j)) := fold_joins (eprs p q o m) id (p := (p (o j), q (o j))) (List.mem_map.2 ⟨j, List.mem_range.2 h, rfl⟩)
/-- What the row of a graph returns. -/
def RowPost (n : Nat) (lab wt : Nat → Nat) (w : World) (e : Ending) (w' : World) : Prop := e = .returned (.agg #[.int .i64 (largest n lab wt), .int .i64 (roots n lab), .int .i64 (squares n lab wt)]) ∧ Only [] w w'

end Go.Proofs.Ytipgbbhgmoehfaa
