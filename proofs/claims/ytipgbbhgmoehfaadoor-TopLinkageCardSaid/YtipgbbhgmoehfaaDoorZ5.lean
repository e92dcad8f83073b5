import Derived.Deep.RegionHeld3
import Derived.Deep.AppendLies
import Derived.BigQuiet
import Derived.RegionTactic
import Derived.Test.YtipgbbhgmoehfaaDoorYJ
import Derived.Test.YtipgbbhgmoehfaaDoorYF
import Derived.Test.YtipgbbhgmoehfaaDoorYK
import Derived.Test.YtipgbbhgmoehfaaDoorYI
/-
  The reference of chapter 27: the error of a graph, orders, weights of 1.
-/
namespace Go.Proofs.YtipgbbhgmoehfaaDoor
open Go.RowKit
set_option linter.unusedSimpArgs false
set_option linter.unusedSectionVars false

theorem EdgesIn.drawn {w : World} {A : Option Addr} {n k : Nat} {u v x : Nat → Int} (h : EdgesIn w A n u v x) : EdgesIn (w.drewN k) A n u v x := h.only ((Only.refl [] w).drewN k)
theorem IntsIn.drawn {w : World} {k : IntKind} {A : Option Addr} {n m : Nat} {f : Nat → Int} (h : IntsIn w k A n f) : IntsIn (w.drewN m) k A n f := h.only ((Only.refl [] w).drewN m)

end Go.Proofs.YtipgbbhgmoehfaaDoor

/-
  The reference of chapter 27: the row of a graph, by least labels.
-/
namespace Go.Proofs.YtipgbbhgmoehfaaDoor
open Go.RowKit
set_option linter.unusedSimpArgs false
set_option linter.unusedSectionVars false

theorem squares_bound {n : Nat} {lab wt : Nat → Nat} (h : Labs n lab) (hT : total n wt ≤ 3037000499) : squares n lab wt ≤ 9223372036854775807 := by
  obtain ⟨T, h1, h2⟩ := sqL_le (l := setsL n lab wt) fun v hv => setsL_nonneg v hv
  rw [setsL_sum fun a ha => ⟨h.lt ha, (h a ha).2⟩] at h1
  rw [sqL_sets] at h2
  have h4 : T * T ≤ 3037000499 * 3037000499 := Nat.mul_le_mul (by omega) (by omega)
  omega
theorem sqTo_le {n k : Nat} (lab wt : Nat → Nat) (h : k ≤ n) : sqTo n k lab wt ≤ squares n lab wt := total_pre h _
theorem sumTo_le {n k : Nat} (lab wt : Nat → Nat) (x : Nat) (h : k ≤ n) : sumTo k lab wt x ≤ total n wt := Nat.le_trans (total_pre h _) (sumOf_le n lab wt x)
theorem bigTo_le {n k : Nat} (lab wt : Nat → Nat) : bigTo n k lab wt ≤ total n wt := by
  refine maxL_le (by omega) fun v hv => ?_
  obtain ⟨a, _, rfl⟩ := List.mem_map.1 hv
  have := sumOf_le n lab wt a
  omega
/-- The edges of the whole list. -/
def alls (p q : Nat → Nat) (m : Nat) : List (Nat × Nat) := eprs p q id m
theorem agrees_alls {p q : Nat → Nat} {m : Nat} {l : Nat → Nat} (h : ∀ j, j < m → l (p j) = l (q j)) : Agrees (eprs p q id m) l := by
  intro e he
  obtain ⟨i, hi, rfl⟩ := List.mem_map.1 he
  exact h i (List.mem_range.1 hi)
theorem labK_joins {p q o : Nat → Nat} {m j : Nat} (h : j < m) : labK p q o m (p (o j)) = labK p q o m (q (o j)) := fold_joins (eprs p q o m) id (p := (p (o j), q (o j))) (List.mem_map.2 ⟨j, List.mem_range.2 h, rfl⟩)
/-- What the row of a graph returns. -/
def RowPost (n : Nat) (lab wt : Nat → Nat) (w : World) (e : Ending) (w' : World) : Prop := e = .returned (.agg #[.int .i64 (largest n lab wt), .int .i64 (roots n lab), .int .i64 (squares n lab wt)]) ∧ Only [] w w'

end Go.Proofs.YtipgbbhgmoehfaaDoor

/-
  The reference of chapter 27: the rows of an order.
-/
namespace Go.Proofs.YtipgbbhgmoehfaaDoor
open Go.RowKit
set_option linter.unusedSimpArgs false
set_option linter.unusedSectionVars false

theorem Only.toBelow {w w' : World} (h : Only [] w w') : Below w.heap.size w w' := ⟨h.os, h.tape, h.output, h.size, fun k hk => h.block k hk (by simp)⟩
theorem kept_grown {W w3 : World} {n0 e size n k : Nat} {v : Value} {xs : List Value} {tmp : Obj} {cs : Array Value} {T : TypeId} {f : Nat × Nat} (hrow : W.ownsRow n0 e size v n xs) (hg : (W.alloc tmp).grownBy w3 v.ownBlock) (hk : W.heap[k]? = some (.cells cs T f)) (hT : T ≠ e) : w3.heap[k]? = some (.cells cs T f) := by
  have h1 : k < W.heap.size := heap_lt hk
  rw [hg.block k (by rw [World.size_alloc]; omega) ?_, heap_alloc_old _ _ h1, hk]
  rintro h
  rcases hrow.2 with ⟨rfl, _⟩ | ⟨g, cap, cur, rfl, _, hgb, _⟩
  · simp [Value.ownBlock] at h
  · obtain rfl : k = g := by simpa [Value.ownBlock] using h
    rw [hgb] at hk
    cases hk
    exact hT rfl
theorem owns_apart {W w3 : World} {n0 base e T size size' n n' : Nat} {v v' : Value} {xs xs' : List Value} {tmp : Obj} (hrow : W.ownsRow n0 e size v n xs) (hg : (W.alloc tmp).grownBy w3 v.ownBlock) (h : W.ownsRow base T size' v' n' xs') (hT : T ≠ e) : w3.ownsRow base T size' v' n' xs' := by
  obtain ⟨hl, h0 | ⟨g, cap, cur, hv, hb, hh, rest⟩⟩ := h
  · exact ⟨hl, .inl h0⟩
  · exact ⟨hl, .inr ⟨g, cap, cur, hv, hb, kept_grown hrow hg hh hT, rest⟩⟩
theorem owns_only {W W' : World} {base T size n : Nat} {v : Value} {xs : List Value} (h : W.ownsRow base T size v n xs) (o : Only [] W W') : W'.ownsRow base T size v n xs := (KeepC.of_only (b := 0) o).owns h
theorem below_append {w W w3 : World} {e size n : Nat} {v : Value} {xs : List Value} {tmp : Obj} (hB : Below w.heap.size w W) (hrow : W.ownsRow w.heap.size e size v n xs) (hg : (W.alloc tmp).grownBy w3 v.ownBlock) : Below w.heap.size w w3 :=
  (hB.alloc hB.size tmp).grown hg (by rw [World.size_alloc]; have := hB.size; omega) fun j hj => (hrow.lt j hj).1

end Go.Proofs.YtipgbbhgmoehfaaDoor

/-
  The reference of chapter 27: plain rows; Rows.
-/
namespace Go.Proofs.YtipgbbhgmoehfaaDoor
open Go.RowKit
set_option linter.unusedSimpArgs false
set_option linter.unusedSectionVars false

/-- Triples that lie in cells of one's own. -/
theorem trips_own {w : World} {base n : Nat} {T : TypeId} {val : Value} {u v x : Nat → Int} (h : w.ownsRow base T 3 val n (edgesL u v x n)) (hwf : ∀ j, j < n → (Lit.int .i64 (u j)).wf = true ∧ (Lit.int .i64 (v j)).wf = true ∧ (Lit.int .i64 (x j)).wf = true) :
    ∃ A c, val = .slice A n c ∧ EdgesIn w A n u v x := by
  obtain ⟨hl, ⟨rfl, rfl⟩ | ⟨g, cap, cur, rfl, hg, hh, hn, hc, hs, ht⟩⟩ := h
  · exact ⟨none, 0, rfl, fun h => by omega, hwf, by unfold maxLen; omega⟩
  · refine ⟨_, cap, rfl, fun h0 => ⟨g, 0, rfl, heap_lt hh, fun j hj => ?_⟩, hwf, by omega⟩
    have e : ∀ i, i < n * 3 → w.cell? ⟨g, 0 + i, none⟩ = some (.int .i64 (ecell u v x i)) := fun i hi => by
      have := edgesL_get u v x hi
      rw [← ht, List.getElem?_take, if_pos (by omega)] at this
      rw [Nat.zero_add]
      exact cell_of_heap hh (by simpa using this)
    have e0 := e (j * 3) (by omega)
    have e1 := e (j * 3 + 1) (by omega)
    have e2 := e (j * 3 + 2) (by omega)
    rw [ecell_0] at e0
    rw [ecell_1] at e1
    rw [ecell_2] at e2
    exact ⟨e0, e1, e2⟩
theorem wf_of {x : Int} (h0 : -9223372036854775808 ≤ x) (h1 : x ≤ 9223372036854775807) : (Lit.int .i64 x).wf = true := by simp [Lit.wf, IntKind.min, IntKind.max, IntKind.bits, IntKind.signed]; omega
/-- The quantities of a row are numbers of 64 bits. -/
theorem row_wf {n : Nat} {p q o wt : Nat → Nat} {k : Nat} (h : ∀ i, i < k → p (o i) < n ∧ q (o i) < n) (hT : total n wt ≤ 3037000499) (hn : n ≤ 65536) :
    (Lit.int .i64 (rA n p q o wt k)).wf = true ∧ (Lit.int .i64 (rB n p q o k)).wf = true ∧ (Lit.int .i64 (rC n p q o wt k)).wf = true := by
  have hL := labK_labs h
  have h1 := squares_bound (wt := wt) hL hT
  have h2 := roots_le n (labK p q o k)
  have h3 := bigTo_le (n := n) (k := n) (labK p q o k) wt
  have h4 := bigTo_nonneg n n (labK p q o k) wt
  rw [bigTo_all] at h3 h4
  exact ⟨wf_of (by unfold rA; omega) (by unfold rA; omega), wf_of (by unfold rB; omega) (by unfold rB; omega), wf_of (by unfold rC; omega) (by unfold rC; omega)⟩
theorem cell_three_at (w : World) (x y z : Value) (t : TypeId) : ∀ j u, [x, y, z][j]? = some u → ((w.alloc (.cells #[x, y, z] t)).drew).cell? ((⟨w.heap.size, 0, none⟩ : Addr).add j) = some u := cell_three_new w x y z t

theorem total_one (n : Nat) : total n one = n := total_ones n
end Go.Proofs.YtipgbbhgmoehfaaDoor

/-
  sweep: Giant and Jump, and the reference's.
-/
namespace Go.Proofs.YtipgbbhgmoehfaaDoor
open Go.RowKit
set_option linter.unusedSimpArgs false
set_option linter.unusedSectionVars false

/-- The first row that is so large. -/
def GiantIs (n : Nat) (u : Nat → Int) (size i : Int) (b : Bool) : Prop :=
  (b = true ∧ ∃ k : Nat, i = k ∧ k < n ∧ size ≤ u k ∧ ∀ j, j < k → u j < size) ∨ (b = false ∧ i = 0 ∧ ∀ j, j < n → u j < size)
theorem GiantIs.unique {n : Nat} {u : Nat → Int} {size i i' : Int} {b b' : Bool} (h : GiantIs n u size i b) (h' : GiantIs n u size i' b') : i = i' ∧ b = b' := by
  rcases h with ⟨rfl, k, rfl, h1, h2, h3⟩ | ⟨rfl, rfl, h1⟩ <;> rcases h' with ⟨rfl, k', rfl, g1, g2, g3⟩ | ⟨rfl, rfl, g1⟩
  · refine ⟨?_, rfl⟩
    rcases Nat.lt_trichotomy k k' with h | h | h
    · have := g3 k h; omega
    · rw [h]
    · have := h3 k' h; omega
  · have := g1 k h1; omega
  · have := h1 k' g1; omega
  · exact ⟨rfl, rfl⟩
def Fair (n : Nat) (u : Nat → Int) : Prop := ∀ j, j < n → 0 ≤ u j ∧ u j ≤ 1099511627776
/-- Where it has grown most among the first k rows, and by how much. -/
def jmp (u : Nat → Int) : Nat → Int × Int
  | 0 => (0, 0)
  | 1 => (0, 0)
  | k + 2 => if (jmp u (k + 1)).2 < u (k + 1) - u k then (((k + 1 : Nat) : Int), u (k + 1) - u k) else jmp u (k + 1)
theorem jmp_next (u : Nat → Int) {k : Nat} (hk : 1 ≤ k) : jmp u (k + 1) = if (jmp u k).2 < u k - u (k - 1) then ((k : Int), u k - u (k - 1)) else jmp u k := by
  obtain ⟨j, rfl⟩ : ∃ j, k = j + 1 := ⟨k - 1, by omega⟩
  rfl
def JumpIs (n : Nat) (u : Nat → Int) (i b : Int) : Prop := (Fair n u ∧ (i, b) = jmp u n) ∨ (¬ Fair n u ∧ i = 0 ∧ b = 0)
theorem JumpIs.unique {n : Nat} {u : Nat → Int} {i b i' b' : Int} (h : JumpIs n u i b) (h' : JumpIs n u i' b') : i = i' ∧ b = b' := by
  rcases h with ⟨h1, h2⟩ | ⟨h1, rfl, rfl⟩ <;> rcases h' with ⟨g1, g2⟩ | ⟨g1, rfl, rfl⟩
  · have := h2.trans g2.symm
    cases this
    exact ⟨rfl, rfl⟩
  · exact absurd h1 g1
  · exact absurd g1 h1
  · exact ⟨rfl, rfl⟩
theorem jmp_range {n : Nat} {u : Nat → Int} (h : Fair n u) : ∀ k, k ≤ n → 0 ≤ (jmp u k).1 ∧ (jmp u k).1 ≤ k ∧ 0 ≤ (jmp u k).2 ∧ (jmp u k).2 ≤ 1099511627776 := by
  intro k
  induction k with
  | zero => intro _; exact ⟨by simp [jmp], by simp [jmp], by simp [jmp], by simp [jmp]⟩
  | succ k ih =>
    intro hk
    have := ih (by omega)
    rcases Nat.eq_zero_or_pos k with rfl | hp
    · exact ⟨by simp [jmp], by simp [jmp], by simp [jmp], by simp [jmp]⟩
    · rw [jmp_next u hp]
      have h1 := h k (by omega)
      have h2 := h (k - 1) (by omega)
      split
      · simp only
        omega
      · omega

def GiantPost (n : Nat) (u : Nat → Int) (size : Int) (w : World) (e : Ending) (w' : World) : Prop := ∃ i b, e = .returned (.tuple #[.int .i64 i, .bool b]) ∧ GiantIs n u size i b ∧ Only [] w w'

end Go.Proofs.YtipgbbhgmoehfaaDoor

/-
  Chapter 27: the law's helpers same, kept, few.
-/
namespace Go.Proofs.YtipgbbhgmoehfaaDoor
open Go.RowKit
set_option linter.unusedSimpArgs false
set_option linter.unusedSectionVars false

theorem edge_neq (x1 y1 z1 x2 y2 z2 : Int) (w : World) : (binOp .neq 49 (.agg #[.int .i64 x1, .int .i64 y1, .int .i64 z1]) (.agg #[.int .i64 x2, .int .i64 y2, .int .i64 z2])).run Tryd.prog w = .ok (.bool (!decide (x1 = x2 ∧ y1 = y2 ∧ z1 = z2))) w := by
  have yi3 := Tryd.underlying3
  have yi2 := Tryd.underlying2
  have hS : Tryd.prog.underlying 49 = some (.struct (Tryd.prog.fieldsOf 49)) := by kernel_rfl
  have hp : Tryd.prog.stoodInHeld 49 = false := by kernel_rfl
  rw [run_neq_struct, show (10000 : Nat) = 9999 + 1 from rfl, run_equalIn_agg w 9999 49 _ _ hS hp]
  simp only [Program.fieldsOf, Tryd.underlying49]
  go_simp
  by_cases h1 : x1 = x2 <;> by_cases h2 : y1 = y2 <;> by_cases h3 : z1 = z2 <;> simp [h1, h2, h3]

/-- Is a graph examined. -/
def isFew (n : Int) (m : Nat) : Bool := decide ((n ≤ 40 ∨ 4096 < n) ∧ m ≤ 120)
end Go.Proofs.YtipgbbhgmoehfaaDoor

/-
  graph: a graph as it lies in memory; valid, N, parts.
-/
namespace Go.Proofs.YtipgbbhgmoehfaaDoor
open Go.RowKit
attribute [local go_sem] Oper.semAt_some
set_option linter.unusedSimpArgs false
set_option linter.unusedSectionVars false

/-- A graph of n vertices and these edges. -/
def GAt (W : World) (G n m : Nat) (u v x : Nat → Int) : Prop := ∃ S L A c, W.heap[G]? = some (.cells #[.pointer (some ⟨G, 0, none⟩), .slice A m c, .slice (some ⟨S, 0, none⟩) (n + 1) (n + 1), .slice (some ⟨L, 0, none⟩) (2 * m) (2 * m)] 126 (0, 0)) ∧ EdgesIn W A m u v x
theorem GAt.only {W W' : World} {G n m : Nat} {u v x : Nat → Int} (h : GAt W G n m u v x) (hO : Only [] W W') : GAt W' G n m u v x := by
  obtain ⟨S, L, A, c, h1, h2⟩ := h
  exact ⟨S, L, A, c, (hO.block G (heap_lt h1) (by simp)).trans h1, h2.only hO⟩
theorem GAt.of {w W : World} {n m G S L c : Nat} {A : Option Addr} {fs : Nat → Nat} {u v x : Nat → Int} (h : Bld w n m G S L A c fs W) (hE : EdgesIn W A m u v x) : GAt W G n m u v x := ⟨S, L, A, c, h.head, hE⟩
theorem graph_info : Tryd.prog.info? 126 = some ((Tryd.prog.info? 126).getD default) := by kernel_rfl
end Go.Proofs.YtipgbbhgmoehfaaDoor

/-
  dsu: Groups.
-/
namespace Go.Proofs.YtipgbbhgmoehfaaDoor
open Go.RowKit
attribute [local go_sem] Oper.semAt_some
set_option linter.unusedSimpArgs false
set_option linter.unusedSectionVars false

/-! Where the groups lie (plain). -/
def endTo (n : Nat) (lab : Nat → Nat) (i : Nat) : Nat := total i fun a => if lab a = a then sumOf n lab one a else 0
def fnG (n : Nat) (lab : Nat → Nat) (i a : Nat) : Nat := if lab a = a ∧ a < i then endTo n lab a + sumTo i lab one a else 0
def setsTo (n : Nat) (lab : Nat → Nat) (i : Nat) : List Int := ((List.range i).filter fun a => lab a == a).map fun a => (sumOf n lab one a : Int)
theorem endTo_root {n : Nat} {lab : Nat → Nat} {i : Nat} (h : lab i = i) : endTo n lab (i + 1) = endTo n lab i + sumOf n lab one i := by unfold endTo; rw [total, if_pos h]
theorem endTo_non {n : Nat} {lab : Nat → Nat} {i : Nat} (h : lab i ≠ i) : endTo n lab (i + 1) = endTo n lab i := by unfold endTo; rw [total, if_neg h]; rfl
theorem endTo_all {n : Nat} {lab : Nat → Nat} (h : Labs n lab) : endTo n lab n = n := by
  have := setsL_sum (n := n) (lab := lab) (wt := one) fun a ha => ⟨h.lt ha, (h a ha).2⟩
  unfold setsL at this
  rw [sumL_filter] at this
  have e : ∀ a, (if (lab a == a) = true then sumOf n lab one a else 0) = if lab a = a then sumOf n lab one a else 0 := fun a => by simp
  simp only [e] at this
  rw [total_one] at this
  exact Int.ofNat.inj this
theorem endTo_le {n : Nat} {lab : Nat → Nat} (h : Labs n lab) {i : Nat} (hi : i ≤ n) : endTo n lab i ≤ n := by
  have h1 := total_pre hi (fun a => if lab a = a then sumOf n lab one a else 0)
  have h2 := endTo_all h
  unfold endTo at *
  omega
theorem room {n : Nat} {lab : Nat → Nat} {i : Nat} (hi : i < n) : sumTo i lab one (lab i) + 1 ≤ sumOf n lab one (lab i) := by
  have h1 := total_pre (show i + 1 ≤ n by omega) (fun a => if lab a = lab i then one a else 0)
  have h2 := sumTo_succ i lab one (lab i)
  rw [if_pos rfl] at h2
  have h3 : sumTo (i + 1) lab one (lab i) ≤ sumOf n lab one (lab i) := h1
  have : one i = 1 := rfl
  omega
theorem setsTo_root {n : Nat} {lab : Nat → Nat} {i : Nat} (h : lab i = i) : setsTo n lab (i + 1) = setsTo n lab i ++ [(sumOf n lab one i : Int)] := by
  unfold setsTo
  rw [List.range_succ, List.filter_append, List.map_append, List.filter_cons_of_pos (by simpa using h)]
  rfl
theorem setsTo_non {n : Nat} {lab : Nat → Nat} {i : Nat} (h : lab i ≠ i) : setsTo n lab (i + 1) = setsTo n lab i := by
  unfold setsTo
  rw [List.range_succ, List.filter_append, List.map_append, List.filter_cons_of_neg (by simpa using h)]
  simp
/-- The row of next places, before and after its step. -/
theorem fnG_at {n : Nat} {lab : Nat → Nat} (h : Labs n lab) {i : Nat} (hi : i < n) : (if lab i = i then endTo n lab i else fnG n lab i (lab i)) = endTo n lab (lab i) + sumTo i lab one (lab i) := by
  have hl := h i hi
  by_cases e : lab i = i
  · rw [if_pos e, e, sumTo_low h (Nat.le_refl i) (by omega)]; rfl
  · rw [if_neg e]
    unfold fnG
    rw [if_pos ⟨hl.2, by omega⟩]
theorem fnG_next {n : Nat} {lab : Nat → Nat} (h : Labs n lab) {i : Nat} (hi : i < n) {g : Nat → Nat} (h1 : ∀ a, a < n → a ≠ lab i → g a = fnG n lab i a) (h2 : g (lab i) = endTo n lab (lab i) + sumTo i lab one (lab i) + 1) : ∀ a, a < n → g a = fnG n lab (i + 1) a := by
  intro a ha
  have hl := h i hi
  by_cases e : a = lab i
  · rw [e, h2]
    unfold fnG
    rw [if_pos ⟨hl.2, by omega⟩, sumTo_succ, if_pos rfl]
    rfl
  · rw [h1 a ha e]
    unfold fnG
    by_cases hr : lab a = a
    · by_cases hai : a < i
      · rw [if_pos ⟨hr, hai⟩, if_pos ⟨hr, by omega⟩, sumTo_succ, if_neg (fun h => e h.symm)]
        rfl
      · rw [if_neg (fun h => hai h.2), if_neg (fun h => by
          have : a = i := by omega
          subst this
          exact e hr.symm)]
    · rw [if_neg (fun h => hr h.1), if_neg (fun h => hr h.1)]
theorem size_of {W : World} {S U L Z n : Nat} {lab up rt d least size : Nat → Nat} {cu cl cz : Nat} (h : Dsu W S U L Z n lab up rt d least size cu cl cz) {i : Nat} (hi : i < n) : size (rt i) = sumOf n lab one (lab i) := by
  rw [h.sizeE (rt i) (h.forest.rlt i hi) (h.forest.rrt hi)]
  have key : ∀ k, many k (fun a => rt a == rt i) = total k fun a => if (rt a == rt i) = true then 1 else 0 := by
    intro k
    induction k with
    | zero => rfl
    | succ k ih => rw [many_succ, ih, total]
  rw [key]
  refine total_congr fun a ha => ?_
  have e : (rt a == rt i) = true ↔ lab a = lab i := by
    rw [beq_iff_eq]
    constructor
    · intro e; rw [h.labE a ha, h.labE i hi, e]
    · intro e
      have h1 := (h.leastE a ha).2
      have h2 := (h.leastE i hi).2
      rw [← h.labE a ha] at h1
      rw [← h.labE i hi, ← e, h1] at h2
      exact h2
  by_cases h3 : lab a = lab i
  · rw [if_pos (e.2 h3), if_pos h3]; rfl
  · rw [if_neg (fun h => h3 (e.1 h)), if_neg h3]
def lenV : Value → Int
  | .slice _ n _ => n
  | _ => 0
theorem infoSl : (Tryd.prog.info? 31).map (fun i => (i.zero, i.size, i.bytes)) = some (some (.slice none 0 0), 1, 24) := by kernel_rfl
/-- What Groups keeps. -/
structure Grp (w : World) (S U L Z n : Nat) (lab rt d least size : Nat → Nat) (cu cl cz Lb Nx : Nat) (vg : Value) (fn : Nat → Nat) (i : Nat) (W : World) : Prop where
  dsu : ∃ up, Dsu W S U L Z n lab up rt d least size cu cl cz
  lst : ∃ fl, Row W Lb n fl
  nxt : Row W Nx n fn
  grp : ∃ xs, W.ownsRow w.heap.size 31 1 vg (roots i lab) xs ∧ xs.map lenV = setsTo n lab i
  only : Only [S, U, L, Z] w W
theorem Grp.keep {w : World} {S U L Z n : Nat} {lab rt d least size : Nat → Nat} {cu cl cz Lb Nx : Nat} {vg : Value} {fn : Nat → Nat} {i : Nat} {W W' : World} (h : Grp w S U L Z n lab rt d least size cu cl cz Lb Nx vg fn i W) (hO : Only [] W W') : Grp w S U L Z n lab rt d least size cu cl cz Lb Nx vg fn i W' := by
  obtain ⟨up, hd⟩ := h.dsu
  obtain ⟨fl, hl⟩ := h.lst
  obtain ⟨xs, hg, hx⟩ := h.grp
  exact ⟨⟨up, hd.same fun k hk => hO.block k (hd.flt k hk) (by simp)⟩, ⟨fl, hl.only hO (by simp)⟩, h.nxt.only hO (by simp), ⟨xs, owns_only hg hO, hx⟩, h.only.trans (hO.mono (by simp))⟩
theorem Dsu.typed {W : World} {S U L Z n : Nat} {lab up rt d least size : Nat → Nat} {cu cl cz : Nat} (h : Dsu W S U L Z n lab up rt d least size cu cl cz) : ∀ k, k ∈ [S, U, L, Z] → ∃ cs t, W.heap[k]? = some (.cells cs t (0, 0)) ∧ t ≠ 31 := by
  intro k hk
  simp only [List.mem_cons, List.not_mem_nil, or_false] at hk
  rcases hk with rfl | rfl | rfl | rfl
  · exact ⟨_, _, h.head, by decide⟩
  · obtain ⟨cs, hc⟩ := h.rowU.heap; exact ⟨_, _, hc, by decide⟩
  · obtain ⟨cs, hc⟩ := h.rowL.heap; exact ⟨_, _, hc, by decide⟩
  · obtain ⟨cs, hc⟩ := h.rowZ.heap; exact ⟨_, _, hc, by decide⟩
/-- The root of an element is asked for. -/
theorem Grp.root {w : World} {S U L Z n : Nat} {lab rt d least size : Nat → Nat} {cu cl cz Lb Nx : Nat} {vg : Value} {fn : Nat → Nat} {i : Nat} {W : World} (h : Grp w S U L Z n lab rt d least size cu cl cz Lb Nx vg fn i W) (hLb : w.heap.size ≤ Lb) (hNx : w.heap.size ≤ Nx) (hU : U < w.heap.size) {a : Nat} (ha : a < n) :
    Calls Tryd.prog 46 #[.pointer (some ⟨S, 0, none⟩), .int .i64 a] W fun e w' => e = .returned (.int .i64 (rt a)) ∧ Grp w S U L Z n lab rt d least size cu cl cz Lb Nx vg fn i w' := by
  obtain ⟨up, hd⟩ := h.dsu
  refine (root_dsu hd a ha).mono ?_
  rintro e w' ⟨rfl, up', hd', hO⟩
  obtain ⟨fl, hl⟩ := h.lst
  obtain ⟨xs, hg, hx⟩ := h.grp
  refine ⟨rfl, ⟨up', hd'⟩, ⟨fl, hl.only hO (by simp; omega)⟩, h.nxt.only hO (by simp; omega), ⟨xs, ?_, hx⟩, h.only.trans (hO.mono fun k hk => by simp at hk; simp [hk])⟩
  obtain ⟨hl', h0 | ⟨g, cap, cur, hv, hb, hh, rest⟩⟩ := hg
  · exact ⟨hl', .inl h0⟩
  · exact ⟨hl', .inr ⟨g, cap, cur, hv, hb, (hO.block g (heap_lt hh) (by simp; omega)).trans hh, rest⟩⟩
/-- One group more. -/
theorem Grp.put {w : World} {S U L Z n : Nat} {lab rt d least size : Nat → Nat} {cu cl cz Lb Nx : Nat} {vg v' : Value} {fn : Nat → Nat} {i : Nat} {W w5 : World} {tmp : Obj} {A : Option Addr} {c : Nat} (h : Grp w S U L Z n lab rt d least size cu cl cz Lb Nx vg fn i W) (hr : lab i = i) {xs : List Value} (hx : xs.map lenV = setsTo n lab i) (hown0 : W.ownsRow w.heap.size 31 1 vg (roots i lab) xs)
    (hown : w5.ownsRow w.heap.size 31 1 v' (roots i lab + 1) (xs ++ [.slice A (sumOf n lab one i) c])) (hg : (W.alloc tmp).grownBy w5 vg.ownBlock) :
    Grp w S U L Z n lab rt d least size cu cl cz Lb Nx v' fn (i + 1) w5 := by
  obtain ⟨up, hd⟩ := h.dsu
  obtain ⟨fl, hl⟩ := h.lst
  have rowk : ∀ {g : Nat} {f : Nat → Nat}, Row W g n f → Row w5 g n f := fun hrow => by
    obtain ⟨cs, hc⟩ := hrow.heap
    exact hrow.same ((kept_grown hown0 hg hc (by decide)).trans hc.symm)
  refine ⟨⟨up, hd.same fun k hk => ?_⟩, ⟨fl, rowk hl⟩, rowk h.nxt, ⟨xs ++ [.slice A (sumOf n lab one i) c], ?_, ?_⟩, ?_⟩
  · obtain ⟨cs, t, hc, ht⟩ := hd.typed k hk
    exact (kept_grown hown0 hg hc ht).trans hc.symm
  · rw [rootsTo_succ, if_pos hr]; exact hown
  · rw [List.map_append, hx, setsTo_root hr]; rfl
  · refine ⟨?_, ?_, ?_, ?_, fun k hk hn => ?_⟩
    · exact hg.os.trans h.only.os
    · exact hg.tape.trans h.only.tape
    · exact hg.output.trans h.only.output
    · have := hg.size; rw [World.size_alloc] at this; have := h.only.size; omega
    · have h1 : k < W.heap.size := Nat.lt_of_lt_of_le hk h.only.size
      rw [hg.block k (by rw [World.size_alloc]; omega) (fun e => by have := (hown0.lt k e.symm).1; omega), heap_alloc_old _ _ h1]
      exact h.only.block k hk hn
theorem owns_set {W : World} {base e size n : Nat} {v : Value} {xs : List Value} (h : W.ownsRow base e size v n xs) {g i : Nat} {f : Nat → Nat} {m : Nat} (hr : Row W g m f) (he : e ≠ 3) (x : Value) : (W.setCell ⟨g, i, none⟩ x).ownsRow base e size v n xs := by
  obtain ⟨hl, h0 | ⟨g', cap, cur, hv, hb, hh, rest⟩⟩ := h
  · exact ⟨hl, .inl h0⟩
  · refine ⟨hl, .inr ⟨g', cap, cur, hv, hb, head_other hh (fun e' => ?_) x, rest⟩⟩
    obtain ⟨cs, hc⟩ := hr.heap
    rw [← e', hh] at hc
    cases hc
    exact he rfl
theorem Grp.setN {w : World} {S U L Z n : Nat} {lab rt d least size : Nat → Nat} {cu cl cz Lb Nx : Nat} {vg : Value} {fn : Nat → Nat} {i : Nat} {W : World} (h : Grp w S U L Z n lab rt d least size cu cl cz Lb Nx vg fn i W) (h1 : S < w.heap.size) (h2 : U < w.heap.size) (h3 : L < w.heap.size) (h4 : Z < w.heap.size) (hN : w.heap.size ≤ Nx) (hne : Lb ≠ Nx) (a y : Nat) :
    Grp w S U L Z n lab rt d least size cu cl cz Lb Nx vg (Go.Proofs.YtipgbbhgmoehfaaDoor.put fn a y) i (W.setCell ⟨Nx, a, none⟩ (.int .i64 y)) := by
  obtain ⟨up, hd⟩ := h.dsu
  obtain ⟨fl, hl⟩ := h.lst
  obtain ⟨xs, hg, hx⟩ := h.grp
  refine ⟨⟨up, hd.same fun k hk => ?_⟩, ⟨fl, hl.set_other hne _⟩, h.nxt.put a y, ⟨xs, owns_set hg h.nxt (by decide) _, hx⟩, ?_⟩
  · simp only [List.mem_cons, List.not_mem_nil, or_false] at hk
    exact heap_setCell_other W ⟨Nx, a, none⟩ k _ (by show k ≠ Nx; omega)
  · exact h.only.to ((Only.refl [Nx] W).setCell (by simp) _) fun j hj hlt => by simp at hj; omega
theorem Grp.setL {w : World} {S U L Z n : Nat} {lab rt d least size : Nat → Nat} {cu cl cz Lb Nx : Nat} {vg : Value} {fn : Nat → Nat} {i : Nat} {W : World} (h : Grp w S U L Z n lab rt d least size cu cl cz Lb Nx vg fn i W) (h1 : S < w.heap.size) (h2 : U < w.heap.size) (h3 : L < w.heap.size) (h4 : Z < w.heap.size) (hN : w.heap.size ≤ Lb) (hne : Nx ≠ Lb) (a y : Nat) :
    Grp w S U L Z n lab rt d least size cu cl cz Lb Nx vg fn i (W.setCell ⟨Lb, a, none⟩ (.int .i64 y)) := by
  obtain ⟨up, hd⟩ := h.dsu
  obtain ⟨fl, hl⟩ := h.lst
  obtain ⟨xs, hg, hx⟩ := h.grp
  refine ⟨⟨up, hd.same fun k hk => ?_⟩, ⟨_, hl.put a y⟩, h.nxt.set_other hne _, ⟨xs, owns_set hg hl (by decide) _, hx⟩, ?_⟩
  · simp only [List.mem_cons, List.not_mem_nil, or_false] at hk
    exact heap_setCell_other W ⟨Lb, a, none⟩ k _ (by show k ≠ Lb; omega)
  · exact h.only.to ((Only.refl [Lb] W).setCell (by simp) _) fun j hj hlt => by simp at hj; omega
theorem Grp.same {w : World} {S U L Z n : Nat} {lab rt d least size : Nat → Nat} {cu cl cz Lb Nx : Nat} {vg : Value} {fn : Nat → Nat} {i : Nat} {W : World} (h : Grp w S U L Z n lab rt d least size cu cl cz Lb Nx vg fn i W) (hr : lab i ≠ i) : Grp w S U L Z n lab rt d least size cu cl cz Lb Nx vg fn (i + 1) W := by
  obtain ⟨xs, hg, hx⟩ := h.grp
  exact ⟨h.dsu, h.lst, h.nxt, ⟨xs, by rw [rootsTo_succ, if_neg hr]; exact hg, by rw [setsTo_non hr]; exact hx⟩, h.only⟩
theorem Grp.congr {w : World} {S U L Z n : Nat} {lab rt d least size : Nat → Nat} {cu cl cz Lb Nx : Nat} {vg : Value} {fn fn' : Nat → Nat} {i : Nat} {W : World} (h : Grp w S U L Z n lab rt d least size cu cl cz Lb Nx vg fn i W) (e : ∀ a, a < n → fn a = fn' a) : Grp w S U L Z n lab rt d least size cu cl cz Lb Nx vg fn' i W :=
  ⟨h.dsu, h.lst, h.nxt.congr e, h.grp, h.only⟩
theorem cell_keepN {W W3 : World} {b i g j : Nat} {v y : Value} (h : W.cell? ⟨b, i, none⟩ = some v) (hne : b ≠ g) (e : W.setCell ⟨g, j, none⟩ y = W3) : W3.cell? ⟨b, i, none⟩ = some v := by
  rw [← e]
  exact (World.cell?_of_block (w := W) (a := ⟨b, i, none⟩) (heap_setCell_other W ⟨g, j, none⟩ b y hne)).trans h
/-- What Groups returns: rows whose lengths are the sizes of the sets. -/
def GroupsPost (w : World) (F : List Nat) (n : Nat) (lab : Nat → Nat) (e : Ending) (w' : World) : Prop := ∃ v xs, e = .returned v ∧ w'.ownsRow w.heap.size 31 1 v (roots n lab) xs ∧ xs.map lenV = setsTo n lab n ∧ Only F w w'
end Go.Proofs.YtipgbbhgmoehfaaDoor

/-
  graph: Components, Row.
-/
namespace Go.Proofs.YtipgbbhgmoehfaaDoor
open Go.RowKit
attribute [local go_sem] Oper.semAt_some
set_option linter.unusedSimpArgs false
set_option linter.unusedSectionVars false

theorem maxL_more (l : List Int) (v : Int) : maxL (l ++ [v]) = max (maxL l) (max v 0) := by
  induction l with
  | nil => simp only [List.nil_append, maxL]; omega
  | cons u l ih => simp only [List.cons_append, maxL, ih]; omega
theorem setsTo_all (n : Nat) (lab : Nat → Nat) : setsTo n lab n = setsL n lab one := rfl
/-- The components of a graph. -/
def CompPost (W : World) (n : Nat) (lab : Nat → Nat) (e : Ending) (w' : World) : Prop := ∃ v xs, e = .returned v ∧ w'.ownsRow W.heap.size 31 1 v (roots n lab) xs ∧ xs.map lenV = setsL n lab one ∧ Only [] W w'
theorem lenV_pos {xs : List Value} {L : List Int} (h : xs.map lenV = L) {k : Nat} {y : Nat} (hy : L[k]? = some (y : Int)) (h1 : 1 ≤ y) : ∃ A c, xs[k]? = some (.slice A y c) := by
  rw [← h, List.getElem?_map] at hy
  cases hx : xs[k]? with
  | none => rw [hx] at hy; cases hy
  | some v =>
    rw [hx] at hy
    replace hy : lenV v = (y : Int) := by simpa using hy
    cases v with
    | slice A n c =>
      obtain rfl : n = y := Int.ofNat.inj hy
      exact ⟨A, c, rfl⟩
    | _ => exact absurd hy (by simp only [lenV]; omega)
theorem owns_three {W : World} {base e size n : Nat} {v : Value} {xs : List Value} {g X : Nat} {r cap : Nat} {x0 x1 x2 : Value} (h : W.ownsRow base e size v n xs) (hv : v = .slice (some ⟨g, 0, none⟩) r cap) (hne : g ≠ X) :
    (((W.setCell ⟨X, 0, none⟩ x0).setCell ⟨X, 1, none⟩ x1).setCell ⟨X, 2, none⟩ x2).ownsRow base e size v n xs := by
  subst hv
  obtain ⟨hl, ⟨h0, _⟩ | ⟨g', cap', cur, hv, hb, hh, rest⟩⟩ := h
  · cases h0
  · cases hv
    exact ⟨hl, .inr ⟨g, cap, cur, rfl, hb, head_other (head_other (head_other hh hne _) hne _) hne _, rest⟩⟩
end Go.Proofs.YtipgbbhgmoehfaaDoor

/-
  shuffle: Draw.
-/
namespace Go.Proofs.YtipgbbhgmoehfaaDoor
open Go.RowKit
set_option linter.unusedSimpArgs false
set_option linter.unusedSectionVars false

/-- Two elements exchanged. -/
def swp (f : Nat → Nat) (i k : Nat) : Nat → Nat := put (put f i (f k)) k (f i)
/-- What the first draws make of n numbers. -/
def sh (n : Nat) (d : Nat → Nat) : Nat → (Nat → Nat)
  | 0 => id
  | i + 1 => swp (sh n d i) i (i + d i % (n - i))
theorem swp_lt {n : Nat} {f : Nat → Nat} (h : ∀ j, j < n → f j < n) {i k : Nat} (hi : i < n) (hk : k < n) : ∀ j, j < n → swp f i k j < n := by
  intro j hj
  unfold swp put
  split
  · exact h i hi
  · split
    · exact h k hk
    · exact h j hj
theorem sh_lt {n : Nat} (d : Nat → Nat) : ∀ i, i + 1 ≤ n → ∀ j, j < n → sh n d i j < n
  | 0, _, j, hj => hj
  | i + 1, hi, j, hj => swp_lt (sh_lt d i (by omega)) (by omega) (by have := Nat.mod_lt (d i) (show 0 < n - i by omega); omega) j hj

end Go.Proofs.YtipgbbhgmoehfaaDoor

/-
  sweep: Random, and the reference's.
-/
namespace Go.Proofs.YtipgbbhgmoehfaaDoor
open Go.RowKit
set_option linter.unusedSimpArgs false
set_option linter.unusedSectionVars false

theorem Row.ints {w : World} {g n : Nat} {f : Nat → Nat} (h : Row w g n f) (hf : ∀ j, j < n → f j ≤ 9223372036854775807) (hn : n ≤ maxLen) : IntsIn w .i64 (some ⟨g, 0, none⟩) n (fun j => f j) :=
  ⟨fun _ => ⟨g, 0, rfl, h.lt, fun j hj => by rw [Nat.zero_add]; exact h.cell hj⟩, fun j hj => wf_of (by omega) (by have := hf j hj; omega), hn⟩
/-- An order that draws give picks edges. -/
theorem Picked.drawn {w : World} {n : Int} {me g : Nat} {E : Option Addr} {u v x : Nat → Int} {d : Nat → Nat} (hE : EdgesIn w E me u v x) (hk : GCode n me u v 0) (hR : Row w g me (sh me d (me - 1))) :
    Picked w n.toNat me me E (some ⟨g, 0, none⟩) u v x (fun j => sh me d (me - 1) j) (fun j => (u j).toNat) (fun j => (v j).toNat) (sh me d (me - 1)) := by
  obtain ⟨h1, h2⟩ := gcode_ok hk
  have hl : ∀ j, j < me → sh me d (me - 1) j < me := fun j hj => sh_lt d (me - 1) (by omega) j hj
  refine ⟨hE, hR.ints (fun j hj => by have := hl j hj; omega) (by unfold maxLen; omega), fun j hj => ?_, fun j hj => ⟨rfl, hl j hj⟩⟩
  have := h2 j hj
  unfold GoodE InE at this
  omega
end Go.Proofs.YtipgbbhgmoehfaaDoor

/-
  The reference of chapter 27: Random.
-/
namespace Go.Proofs.YtipgbbhgmoehfaaDoor
open Go.RowKit
set_option linter.unusedSimpArgs false
set_option linter.unusedSectionVars false

/-- A list of numbers of one's own, which may be nil where it is empty. -/
def OrdAt (B : Nat) (O : Option Addr) (n : Nat) (f : Nat → Nat) (W : World) : Prop := n = 0 ∨ ∃ g, O = some ⟨g, 0, none⟩ ∧ Row W g n f ∧ B ≤ g
theorem OrdAt.ints {B : Nat} {O : Option Addr} {n : Nat} {f : Nat → Nat} {W : World} (h : OrdAt B O n f W) (hf : ∀ j, j < n → f j ≤ 9223372036854775807) (hn : n ≤ maxLen) : IntsIn W .i64 O n (fun j => f j) := by
  rcases h with rfl | ⟨g, rfl, hr, _⟩
  · exact ⟨fun h => by omega, fun j hj => by omega, hn⟩
  · exact hr.ints hf hn
theorem ord_owned {W : World} {B n : Nat} {v : Value} {f : Nat → Nat} (h : W.ownsRow B 3 1 v n ((List.range n).map fun i => .int .i64 (f i : Nat))) : ∃ O c, v = .slice O n c ∧ OrdAt B O n f W := by
  obtain ⟨hl, ⟨rfl, rfl⟩ | ⟨g, cap, cur, rfl, hg, hh, hn, hc, hs, ht⟩⟩ := h
  · exact ⟨none, 0, rfl, .inl rfl⟩
  · refine ⟨_, cap, rfl, .inr ⟨g, rfl, ⟨cur, hh, fun i hi => ?_⟩, hg⟩⟩
    have : ((List.range n).map fun i => Value.int .i64 (f i : Nat))[i]? = some (.int .i64 (f i : Nat)) := by simp [hi]
    rw [← ht, List.getElem?_take, if_pos (by omega)] at this
    simpa using this
theorem range_ints_succ (k : Nat) : ((List.range (k + 1)).map fun i => Value.int .i64 ((i : Nat) : Int)) = ((List.range k).map fun i => Value.int .i64 ((i : Nat) : Int)) ++ [.int .i64 (k : Nat)] := by
  rw [List.range_succ, List.map_append]; rfl
theorem Picked.given {w : World} {n : Int} {me B : Nat} {E O : Option Addr} {u v x : Nat → Int} {d : Nat → Nat} (hE : EdgesIn w E me u v x) (hk : GCode n me u v 0) (hR : OrdAt B O me (sh me d (me - 1)) w) :
    Picked w n.toNat me me E O u v x (fun j => sh me d (me - 1) j) (fun j => (u j).toNat) (fun j => (v j).toNat) (sh me d (me - 1)) := by
  obtain ⟨h1, h2⟩ := gcode_ok hk
  have hl : ∀ j, j < me → sh me d (me - 1) j < me := fun j hj => sh_lt d (me - 1) (by omega) j hj
  refine ⟨hE, hR.ints (fun j hj => by have := hl j hj; omega) (by unfold maxLen; omega), fun j hj => ?_, fun j hj => ⟨rfl, hl j hj⟩⟩
  have := h2 j hj
  unfold GoodE InE at this
  omega

end Go.Proofs.YtipgbbhgmoehfaaDoor
