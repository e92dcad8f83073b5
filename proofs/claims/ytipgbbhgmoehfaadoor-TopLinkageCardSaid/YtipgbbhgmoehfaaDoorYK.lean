import Derived.LoopNIn
import Derived.LoopIn
import Derived.Sort.CutIn
import Derived.Maps.AppendAt
import Derived.Test.YtipgbbhgmoehfaaDoorYI
import Derived.Test.YtipgbbhgmoehfaaDoorYD
import Derived.Test.YtipgbbhgmoehfaaDoorYF
import Derived.Test.YtipgbbhgmoehfaaDoorYJ
/-
  sweep: steps.
-/
namespace Go.Proofs.YtipgbbhgmoehfaaDoor
open Go.RowKit Go.Shelf
attribute [local go_sem] Oper.semAt_some
set_option linter.unusedSimpArgs false
set_option linter.unusedSectionVars false

theorem Row64.heap' {w : World} {g n : Nat} {f : Nat → Nat} (h : Row64 w g n f) : ∃ o, w.heap[g]? = some o ∧ o.isCells = true := let ⟨_, hc, _⟩ := h; ⟨_, hc, rfl⟩
/-- The unions of the first k edges of an order. -/
def epr (p q o : Nat → Nat) (i : Nat) : Nat × Nat := (p (o i), q (o i))
def eprs (p q o : Nat → Nat) (k : Nat) : List (Nat × Nat) := (List.range k).map (epr p q o)
def labK (p q o : Nat → Nat) (k : Nat) : Nat → Nat := (eprs p q o k).foldl uni id
theorem eprs_succ (p q o : Nat → Nat) (k : Nat) : eprs p q o (k + 1) = eprs p q o k ++ [epr p q o k] := by simp [eprs, List.range_succ]
theorem labK_succ (p q o : Nat → Nat) (k : Nat) : labK p q o (k + 1) = uni (labK p q o k) (p (o k), q (o k)) := by
  unfold labK
  rw [eprs_succ, List.foldl_append]
  rfl
theorem labK_zero (p q o : Nat → Nat) : labK p q o 0 = id := rfl

/-- The quantities of the rows of an order. -/
def rA (n : Nat) (p q o wt : Nat → Nat) (k : Nat) : Int := largest n (labK p q o k) wt
def rB (n : Nat) (p q o : Nat → Nat) (k : Nat) : Int := (roots n (labK p q o k) : Nat)
def rC (n : Nat) (p q o wt : Nat → Nat) (k : Nat) : Int := (squares n (labK p q o k) wt : Nat)
/-- The edges of the first k of an order. -/
structure Picked (w : World) (n me m : Nat) (E O : Option Addr) (u v x fo : Nat → Int) (p q o : Nat → Nat) : Prop where
  edges : EdgesIn w E me u v x
  order : IntsIn w .i64 O m fo
  ends : ∀ j, j < me → u j = p j ∧ v j = q j ∧ p j < n ∧ q j < n
  inds : ∀ j, j < m → fo j = o j ∧ o j < me
theorem Picked.only {w W : World} {n me m : Nat} {E O : Option Addr} {u v x fo : Nat → Int} {p q o : Nat → Nat} (h : Picked w n me m E O u v x fo p q o) (k : Only [] w W) : Picked W n me m E O u v x fo p q o :=
  ⟨h.edges.only k, h.order.only k, h.ends, h.inds⟩

/-- What the iterator over the steps of an order reads. -/
structure StepFact (A Tb Lb Ob : Nat) (E O : Option Addr) (me ce m co : Nat) (u v x f : Nat → Int) (W : World) : Prop where
  ct : W.cell? ⟨Tb, 0, none⟩ = some (.pointer (some ⟨A, 0, none⟩))
  cl : W.cell? ⟨Lb, 0, none⟩ = some (.slice E me ce)
  co : W.cell? ⟨Ob, 0, none⟩ = some (.slice O m co)
  edges : EdgesIn W E me u v x
  order : IntsIn W .i64 O m f

end Go.Proofs.YtipgbbhgmoehfaaDoor

/-
  A path whose edges are added in an order that goes round: how many components there are (plain).
-/
namespace Go.Proofs.YtipgbbhgmoehfaaDoor
set_option linter.unusedSimpArgs false

theorem turn_hits {m t i : Nat} (hi : i < m) : ∃ j, j < m ∧ (j + t) % m = i := by
  have hm : 0 < m := by omega
  have hr := Nat.mod_lt t hm
  have hd := Nat.div_add_mod t m
  by_cases h : t % m ≤ i
  · refine ⟨i - t % m, by omega, ?_⟩
    rw [show i - t % m + t = i + m * (t / m) by omega, Nat.add_mul_mod_self_left]
    exact Nat.mod_eq_of_lt hi
  · refine ⟨i + m - t % m, by omega, ?_⟩
    rw [show i + m - t % m + t = i + m * (t / m + 1) by rw [Nat.mul_add]; omega, Nat.add_mul_mod_self_left]
    exact Nat.mod_eq_of_lt hi
theorem turn_apart {m t i k : Nat} (hi : i < m) (hk : k < i) : (k + t) % m ≠ (i + t) % m := by
  intro e
  have := Nat.sub_mod_eq_zero_of_mod_eq e.symm
  rw [show i + t - (k + t) = i - k by omega, Nat.mod_eq_of_lt (by omega)] at this
  omega
def pathQ (i : Nat) : Nat := i + 1
def turnO (m t : Nat) (i : Nat) : Nat := (i + t) % m
theorem epr_mem {p q o : Nat → Nat} {k i : Nat} (h : i < k) : (p (o i), q (o i)) ∈ eprs p q o k := List.mem_map.2 ⟨i, List.mem_range.2 h, rfl⟩
theorem eprs_len (p q o : Nat → Nat) (k : Nat) : (eprs p q o k).length = k := by simp [eprs]
theorem eprs_lt {p q o : Nat → Nat} {k n : Nat} (h : ∀ i, i < k → p (o i) < n ∧ q (o i) < n) : ∀ e ∈ eprs p q o k, e.1 < n ∧ e.2 < n := by
  intro e he
  obtain ⟨i, hi, rfl⟩ := List.mem_map.1 he
  exact h i (List.mem_range.1 hi)
theorem labK_labs {p q o : Nat → Nat} {k n : Nat} (h : ∀ i, i < k → p (o i) < n ∧ q (o i) < n) : Labs n (labK p q o k) := Labs.fold _ (Labs.id n) (eprs_lt h)
theorem win_le (lab : Nat → Nat) (p : Nat × Nat) : win lab p ≤ 1 := by unfold win; split <;> omega
/-- The number of unions after k edges. -/
def winK (p q o : Nat → Nat) (k : Nat) : Nat := wins id (eprs p q o k)
theorem winK_succ (p q o : Nat → Nat) (k : Nat) : winK p q o (k + 1) = winK p q o k + win (labK p q o k) (p (o k), q (o k)) := by
  unfold winK labK
  rw [eprs_succ, wins_snoc]
  rfl
theorem winK_le (p q o : Nat → Nat) (k : Nat) : winK p q o k ≤ k := by
  have := wins_le (eprs p q o k) id
  rwa [eprs_len] at this
theorem winK_more (p q o : Nat → Nat) (k d : Nat) : winK p q o (k + d) ≤ winK p q o k + d := by
  induction d with
  | zero => exact Nat.le_refl _
  | succ d ih =>
    have := winK_succ p q o (k + d)
    have := win_le (labK p q o (k + d)) (p (o (k + d)), q (o (k + d)))
    rw [show k + (d + 1) = k + d + 1 by omega]
    omega
theorem roots_labK {p q o : Nat → Nat} {k n : Nat} (h : ∀ i, i < k → p (o i) < n ∧ q (o i) < n) : roots n (labK p q o k) + winK p q o k = n := by
  have := wins_roots (eprs p q o k) (Labs.id n) (eprs_lt h)
  rw [roots_id] at this
  exact this
section
variable {m t : Nat} (hm : 1 ≤ m)
include hm
theorem turn_lt (i : Nat) : turnO m t i < m := Nat.mod_lt _ (by omega)
theorem path_lt {k : Nat} : ∀ i, i < k → id (turnO m t i) < m + 1 ∧ pathQ (turnO m t i) < m + 1 := fun i _ => by
  have := turn_lt (t := t) hm i
  unfold pathQ
  exact ⟨by show turnO m t i < m + 1; omega, by omega⟩
theorem path_end : roots (m + 1) (labK id pathQ (turnO m t) m) = 1 := by
  have hL := labK_labs (path_lt (t := t) (k := m) hm)
  have key : ∀ a, a ≤ m → labK id pathQ (turnO m t) m a = 0 := by
    intro a
    induction a with
    | zero => intro _; have := (hL 0 (by omega)).1; omega
    | succ a ih =>
      intro ha
      obtain ⟨j, hj, he⟩ := turn_hits (t := t) (show a < m by omega)
      have := fold_joins (eprs id pathQ (turnO m t) m) id (epr_mem (p := id) (q := pathQ) (o := turnO m t) hj)
      have e : turnO m t j = a := he
      rw [e] at this
      exact this.symm.trans (ih (by omega))
  refine Eq.trans ?_ (many_one (n := m + 1) (M := 0) (by omega))
  refine many_congr fun a ha => ?_
  rw [key a (by omega), Bool.eq_iff_iff]
  simp only [beq_iff_eq]
  exact eq_comm
/-- One component less with each edge. -/
theorem path_roots {k : Nat} (hk : k ≤ m) : roots (m + 1) (labK id pathQ (turnO m t) k) = m + 1 - k := by
  have h1 := roots_labK (path_lt (t := t) (k := m) hm)
  rw [path_end hm] at h1
  have h2 := roots_labK (path_lt (t := t) (k := k) hm)
  have h3 := winK_le id pathQ (turnO m t) k
  have h4 := winK_more id pathQ (turnO m t) k (m - k)
  rw [show k + (m - k) = m by omega] at h4
  omega
end
theorem largest_one {n : Nat} {lab : Nat → Nat} (hn : 1 ≤ n) (h : Labs n lab) : 1 ≤ largest n lab (fun _ => 1) := by
  have h0 := h 0 (by omega)
  have e : lab 0 = 0 := by omega
  refine Int.le_trans ?_ (maxL_ge (setsL_of (wt := fun _ => 1) (show 0 < n by omega) e))
  have := total_at_le (M := 0) (show 0 < n by omega) (fun a => if lab a = 0 then 1 else 0)
  rw [if_pos e] at this
  have h2 : 1 ≤ sumOf n lab (fun _ => 1) 0 := this
  omega
theorem largest_n {n : Nat} (lab : Nat → Nat) : largest n lab (fun _ => 1) ≤ n := by
  refine maxL_le (by omega) fun v hv => ?_
  obtain ⟨a, _, _, rfl⟩ := setsL_mem hv
  have := sumOf_le n lab (fun _ => 1) a
  rw [total_ones] at this
  omega

end Go.Proofs.YtipgbbhgmoehfaaDoor

/-
  What a step of a sweep changes (plain).
-/
namespace Go.Proofs.YtipgbbhgmoehfaaDoor
set_option linter.unusedSimpArgs false

theorem sum_largest {n : Nat} {lab : Nat → Nat} (wt : Nat → Nat) (h : Labs n lab) {a : Nat} (ha : a < n) : (sumOf n lab wt (lab a) : Int) ≤ largest n lab wt := maxL_ge (setsL_of (h.lt ha) (h a ha).2)
theorem sum_ge (lab wt : Nat → Nat) {n a : Nat} (ha : a < n) : wt a ≤ sumOf n lab wt (lab a) := by
  have := total_at_le (M := a) ha (fun b => if lab b = lab a then wt b else 0)
  rw [if_pos rfl] at this
  exact this
/-- One row after another one. -/
theorem row_step {p q o : Nat → Nat} {n k : Nat} (wt : Nat → Nat) (h : ∀ i, i < k + 1 → p (o i) < n ∧ q (o i) < n) :
    labK p q o (k + 1) = labK p q o k ∨ ∃ s t : Nat, wt (p (o k)) ≤ s ∧ wt (q (o k)) ≤ t ∧ (s : Int) ≤ rA n p q o wt k ∧ (t : Int) ≤ rA n p q o wt k ∧
      rA n p q o wt (k + 1) = max (rA n p q o wt k) (s + t : Nat) ∧ rB n p q o (k + 1) + 1 = rB n p q o k ∧ rC n p q o wt (k + 1) = rC n p q o wt k + 2 * (s * t : Nat) := by
  have hL := labK_labs (p := p) (q := q) (o := o) (k := k) (n := n) fun i hi => h i (by omega)
  obtain ⟨h1, h2⟩ := h k (by omega)
  by_cases e : labK p q o k (p (o k)) = labK p q o k (q (o k))
  · exact .inl (by rw [labK_succ]; exact uni_same e)
  · obtain ⟨_, _, f3, f4⟩ := uni_facts hL wt h1 h2 e
    have f5 := roots_uni hL (p := (p (o k), q (o k))) h1 h2 e
    refine .inr ⟨_, _, sum_ge (labK p q o k) wt h1, sum_ge (labK p q o k) wt h2, sum_largest wt hL h1, sum_largest wt hL h2, ?_, ?_, ?_⟩
    · unfold rA; rw [labK_succ]; exact f4
    · unfold rB; rw [labK_succ]; omega
    · unfold rC; rw [labK_succ, f3]; omega
theorem rA_zero (n : Nat) (p q o wt : Nat → Nat) : rA n p q o wt 0 = maxL ((List.range n).map fun a => (wt a : Int)) := by
  unfold rA largest
  rw [labK_zero, setsL_id]
theorem rB_zero (n : Nat) (p q o : Nat → Nat) : rB n p q o 0 = n := by unfold rB; rw [labK_zero, roots_id]
theorem squares_id (n : Nat) (wt : Nat → Nat) : squares n id wt = total n fun a => wt a * wt a := by
  unfold squares
  exact total_congr fun a ha => by rw [if_pos (show id a = a from rfl), sumOf_id ha]
theorem rC_zero (n : Nat) (p q o wt : Nat → Nat) : rC n p q o wt 0 = (total n fun a => wt a * wt a : Nat) := by unfold rC; rw [labK_zero, squares_id]
theorem maxL_ones (n : Nat) : maxL ((List.range n).map fun _ => ((1 : Nat) : Int)) = min (n : Int) 1 := by
  have h1 : maxL ((List.range n).map fun _ => ((1 : Nat) : Int)) ≤ 1 := maxL_le (by omega) fun v hv => by
    obtain ⟨_, _, rfl⟩ := List.mem_map.1 hv
    omega
  have h0 := maxL_nonneg ((List.range n).map fun _ => ((1 : Nat) : Int))
  rcases Nat.eq_zero_or_pos n with rfl | hn
  · rfl
  · have := maxL_ge (l := (List.range n).map fun _ => ((1 : Nat) : Int)) (v := 1) (List.mem_map.2 ⟨0, List.mem_range.2 hn, rfl⟩)
    omega
/-- The sum of squares lies below the sum times the greatest, and not below the square of that. -/
theorem total_mul (n : Nat) (f : Nat → Nat) (c : Nat) : total n (fun a => f a * c) = total n f * c := by
  induction n with
  | zero => simp [total]
  | succ n ih => simp only [total]; rw [ih, Nat.add_mul]
theorem squares_le {n : Nat} {lab wt : Nat → Nat} (h : Labs n lab) : (squares n lab wt : Int) ≤ (total n wt : Nat) * largest n lab wt := by
  have h0 := maxL_nonneg (setsL n lab wt)
  obtain ⟨M, hM⟩ : ∃ M : Nat, largest n lab wt = M := ⟨(largest n lab wt).toNat, by unfold largest; omega⟩
  rw [hM]
  have h1 : squares n lab wt ≤ total n fun a => if lab a = a then sumOf n lab wt a * M else 0 := total_le fun a ha => by
    by_cases e : lab a = a
    · rw [if_pos e, if_pos e]
      have := sum_largest wt h ha
      rw [e, hM] at this
      exact Nat.mul_le_mul_left _ (by omega)
    · rw [if_neg e, if_neg e]
      exact Nat.le_refl _
  have h2 : (total n fun a => if lab a = a then sumOf n lab wt a * M else 0) = (total n fun a => if lab a = a then sumOf n lab wt a else 0) * M := by
    rw [← total_mul]
    exact total_congr fun a _ => by
      by_cases e : lab a = a
      · rw [if_pos e, if_pos e]
      · rw [if_neg e, if_neg e, Nat.zero_mul]
  have h3 : (total n fun a => if lab a = a then sumOf n lab wt a else 0) = total n wt := by
    have := setsL_sum (n := n) (lab := lab) (wt := wt) fun a ha => ⟨h.lt ha, (h a ha).2⟩
    unfold setsL at this
    rw [sumL_filter] at this
    have e : ∀ a, (if (lab a == a) = true then sumOf n lab wt a else 0) = if lab a = a then sumOf n lab wt a else 0 := fun a => by simp
    simp only [e] at this
    omega
  rw [h2, h3] at h1
  have := Int.ofNat_le.2 h1
  rwa [Int.natCast_mul] at this
theorem squares_ge {n : Nat} (lab wt : Nat → Nat) : largest n lab wt * largest n lab wt ≤ (squares n lab wt : Int) := by
  by_cases hz : setsL n lab wt = []
  · unfold largest; rw [hz]
    simp [maxL]
  · have key : ∀ l : List Int, (∀ v ∈ l, 0 ≤ v) → l ≠ [] → maxL l ∈ l := by
      intro l
      induction l with
      | nil => intro _ h; exact absurd rfl h
      | cons v l ih =>
        intro h0 _
        simp only [maxL]
        by_cases e : l = []
        · subst e
          have := h0 v List.mem_cons_self
          simp only [maxL]
          rw [show max v 0 = v by omega]
          exact List.mem_cons_self
        · have hm := ih (fun u hu => h0 u (List.mem_cons_of_mem _ hu)) e
          rcases Int.le_total v (maxL l) with hle | hle
          · rw [show max v (maxL l) = maxL l by omega]; exact List.mem_cons_of_mem _ hm
          · rw [show max v (maxL l) = v by omega]; exact List.mem_cons_self
    obtain ⟨a, ha, hl, hv⟩ := setsL_mem (key _ (fun v hv => setsL_nonneg v hv) hz)
    have := total_at_le ha (fun a => if lab a = a then sumOf n lab wt a * sumOf n lab wt a else 0)
    rw [if_pos hl] at this
    unfold largest
    rw [hv]
    unfold squares
    rw [← Int.natCast_mul]
    exact Int.ofNat_le.2 this

end Go.Proofs.YtipgbbhgmoehfaaDoor

/-
  The levels of a graph: different weights in increasing order, the components up to each (plain).
-/
namespace Go.Proofs.YtipgbbhgmoehfaaDoor
set_option linter.unusedSimpArgs false

/-- The different weights of m edges, in increasing order: r of them. -/
structure Lev (m : Nat) (x : Nat → Int) (r : Nat) (th : Nat → Int) : Prop where
  up : ∀ i j, i < j → j < r → th i < th j
  of : ∀ i, i < r → ∃ j, j < m ∧ x j = th i
  all : ∀ j, j < m → ∃ i, i < r ∧ th i = x j
theorem Lev.le {m : Nat} {x : Nat → Int} {r : Nat} {th : Nat → Int} (h : Lev m x r th) {i j : Nat} (hij : i ≤ j) (hj : j < r) : th i ≤ th j := by
  rcases Nat.eq_or_lt_of_le hij with rfl | hl
  · exact Int.le_refl _
  · exact Int.le_of_lt (h.up i j hl hj)
theorem Lev.pt {m : Nat} {x : Nat → Int} {r r' : Nat} {th th' : Nat → Int} (h : Lev m x r th) (h' : Lev m x r' th') : ∀ i, i < r → i < r' → th i = th' i := by
  intro i
  induction i using Nat.strongRecOn with
  | ind i ih =>
    intro h1 h2
    have half : ∀ {r r' : Nat} {th th' : Nat → Int}, Lev m x r th → Lev m x r' th' → (∀ k, k < i → th k = th' k) → i < r → i < r' → th' i ≤ th i := by
      intro r r' th th' h h' ih h1 h2
      obtain ⟨j, hj, e⟩ := h.of i h1
      obtain ⟨k, hk, e2⟩ := h'.all j hj
      rcases Nat.lt_or_ge k i with hl | hl
      · have := ih k hl
        have := h.up k i hl h1
        omega
      · have := h'.le hl hk
        omega
    have a := half h h' (fun k hk => ih k hk (by omega) (by omega)) h1 h2
    have b := half h' h (fun k hk => (ih k hk (by omega) (by omega)).symm) h2 h1
    omega
theorem Lev.count {m : Nat} {x : Nat → Int} {r r' : Nat} {th th' : Nat → Int} (h : Lev m x r th) (h' : Lev m x r' th') : r = r' := by
  have half : ∀ {r r' : Nat} {th th' : Nat → Int}, Lev m x r th → Lev m x r' th' → r' ≤ r := by
    intro r r' th th' h h'
    by_cases hl : r < r'
    · obtain ⟨j, hj, e⟩ := h'.of r hl
      obtain ⟨k, hk, e2⟩ := h.all j hj
      have := h.pt h' k hk (by omega)
      have := h'.up k r hk hl
      omega
    · omega
  have := half h h'
  have := half h' h
  omega

/-- The edges up to a weight, and their components. -/
def leL (m : Nat) (x : Nat → Int) (t : Int) : List Nat := (List.range m).filter fun j => decide (x j ≤ t)
def leP (p q : Nat → Nat) (m : Nat) (x : Nat → Int) (t : Int) : List (Nat × Nat) := (leL m x t).map fun j => (p j, q j)
def labLe (p q : Nat → Nat) (m : Nat) (x : Nat → Int) (t : Int) : Nat → Nat := (leP p q m x t).foldl uni id
/-- An order of all edges by weight, and then by index. -/
structure ByWeight (m : Nat) (x : Nat → Int) (o : Nat → Nat) : Prop where
  perm : ((List.range m).map o).Perm (List.range m)
  up : ∀ i j, i < j → j < m → x (o i) < x (o j) ∨ (x (o i) = x (o j) ∧ o i < o j)
theorem ByWeight.lt {m : Nat} {x : Nat → Int} {o : Nat → Nat} (h : ByWeight m x o) {i : Nat} (hi : i < m) : o i < m := by
  have : o i ∈ (List.range m).map o := List.mem_map.2 ⟨i, List.mem_range.2 hi, rfl⟩
  exact List.mem_range.1 (h.perm.mem_iff.1 this)
theorem ByWeight.le {m : Nat} {x : Nat → Int} {o : Nat → Nat} (h : ByWeight m x o) {i j : Nat} (hij : i ≤ j) (hj : j < m) : x (o i) ≤ x (o j) := by
  rcases Nat.eq_or_lt_of_le hij with rfl | hl
  · exact Int.le_refl _
  · rcases h.up i j hl hj with h | ⟨h, _⟩ <;> omega
theorem ByWeight.hit {m : Nat} {x : Nat → Int} {o : Nat → Nat} (h : ByWeight m x o) {j : Nat} (hj : j < m) : ∃ i, i < m ∧ o i = j := by
  have : j ∈ (List.range m).map o := h.perm.mem_iff.2 (List.mem_range.2 hj)
  obtain ⟨i, hi, e⟩ := List.mem_map.1 this
  exact ⟨i, List.mem_range.1 hi, e⟩
theorem ByWeight.inj {m : Nat} {x : Nat → Int} {o : Nat → Nat} (h : ByWeight m x o) {i j : Nat} (hi : i < m) (hj : j < m) (e : o i = o j) : i = j := by
  rcases Nat.lt_trichotomy i j with hl | hl | hl
  · rcases h.up i j hl hj with h | ⟨_, h⟩
    · rw [e] at h; omega
    · omega
  · exact hl
  · rcases h.up j i hl hi with h | ⟨_, h⟩
    · rw [e] at h; omega
    · omega
/-- The first k of an order by weight, where the next one is greater, are all edges up to there. -/
theorem ByWeight.front {m : Nat} {x : Nat → Int} {o : Nat → Nat} (h : ByWeight m x o) {k : Nat} {t : Int} (hk : k ≤ m) (h1 : ∀ i, i < k → x (o i) ≤ t) (h2 : ∀ i, k ≤ i → i < m → t < x (o i)) : ((List.range k).map o).Perm (leL m x t) := by
  have e1 : ((List.range m).map o).filter (fun j => decide (x j ≤ t)) = (List.range k).map o := by
    have e : List.range m = List.range k ++ (List.range (m - k)).map (k + ·) := by
      rw [← List.range_add]
      congr 1
      omega
    rw [e, List.map_append, List.filter_append, List.filter_eq_self.2, List.filter_eq_nil_iff.2, List.append_nil]
    · intro j hj
      obtain ⟨i, hi, rfl⟩ := List.mem_map.1 hj
      obtain ⟨d, hd, rfl⟩ := List.mem_map.1 hi
      have := List.mem_range.1 hd
      have := h2 (k + d) (by omega) (by omega)
      simp
      omega
    · intro j hj
      obtain ⟨i, hi, rfl⟩ := List.mem_map.1 hj
      simpa using h1 i (List.mem_range.1 hi)
  rw [← e1]
  exact h.perm.filter _
theorem labK_front {m : Nat} {x : Nat → Int} {o p q : Nat → Nat} (h : ByWeight m x o) {k : Nat} {t : Int} (hk : k ≤ m) (h1 : ∀ i, i < k → x (o i) ≤ t) (h2 : ∀ i, k ≤ i → i < m → t < x (o i)) : labK p q o k = labLe p q m x t := by
  unfold labK labLe
  refine foldl_perm ?_ _
  have := (h.front hk h1 h2).map fun j => (p j, q j)
  rw [List.map_map] at this
  exact this

end Go.Proofs.YtipgbbhgmoehfaaDoor

/-
  sweep: collect, at plain rows.
-/
namespace Go.Proofs.YtipgbbhgmoehfaaDoor
open Go.RowKit Go.Shelf
attribute [local go_sem] Oper.semAt_some
set_option linter.unusedSimpArgs false
set_option linter.unusedSectionVars false

theorem cell_three_new (w : World) (x y z : Value) (t : TypeId) : ∀ j u, [x, y, z][j]? = some u → (w.alloc (.cells #[x, y, z] t)).cell? ((⟨w.heap.size, 0, none⟩ : Addr).add j) = some u := by
  intro j u h
  have hh := heap_alloc_new w (.cells #[x, y, z] t)
  have e : ((⟨w.heap.size, 0, none⟩ : Addr).add j) = ⟨w.heap.size, j, none⟩ := by unfold Addr.add; split <;> simp_all
  rw [e]
  exact cell_of_heap hh (by simpa using h)
theorem KeepC.owns {b : Nat} {W W' : World} {base e size n : Nat} {v : Value} {xs : List Value} (k : KeepC b W W') (h : W.ownsRow base e size v n xs) : W'.ownsRow base e size v n xs := by
  obtain ⟨hl, h0 | ⟨g, cap, cur, hv, hg, hh, rest⟩⟩ := h
  · exact ⟨hl, .inl h0⟩
  · exact ⟨hl, .inr ⟨g, cap, cur, hv, hg, k.cells _ _ hh rfl, rest⟩⟩
/-- An append as a step of a region that draws, inside a fence. -/
theorem stepIn_append {F : Fence} {n : Nat} {P : Program} {ops : Array Oper} {o : Oper} {a : Act} {w w' : World} {K : Act → World → Prop} {Q : Exit → Act → World → Prop} {E : Prop} {v' : Value} (hg : o.guard = none) (s x : Operand) (t : TypeId)
    (hop : o.op = Op.call { callee := Callee.builtin Builtin.append, args := #[s, x], argTypes := #[t, t] }) (hrun : (Builtin.append_ #[t, t] o.type #[a.eval s, a.eval x]).run P w = .ok v' w') (h : K (a.put o.dst v') w') :
    if Region.wanted o (yielded ops a.tmps) = true then Oper.wpIn F n P o a w K Q else E := by
  rw [if_pos (by simp [Region.wanted, hg])]
  unfold Oper.wpIn
  refine ⟨?_, ?_⟩
  · simp [Oper.about, hop, resolve, Target.leads, Sem.run_pure]
  · rw [Oper.semAt_plain F _ _ (by rw [hop]; intro c hc'; cases hc')]
    simp [execOp, hop, resolve, invoke, builtin, hrun, Result.andThen]
    exact h
theorem KeepsOthers.of_only {W W' : World} (h : Only [] W W') : KeepsOthers W W' := ⟨h.size, fun k o hk _ => (h.block k (Array.getElem?_eq_some_iff.1 hk).1 (by simp)).trans hk⟩
end Go.Proofs.YtipgbbhgmoehfaaDoor

/-
  sweep: plainRows, Rows.
-/
namespace Go.Proofs.YtipgbbhgmoehfaaDoor
open Go.RowKit
set_option linter.unusedSimpArgs false
set_option linter.unusedSectionVars false

theorem owns_base {W : World} {b b' e size n : Nat} {v : Value} {xs : List Value} (h : W.ownsRow b e size v n xs) (hb : b' ≤ b) : W.ownsRow b' e size v n xs := by
  obtain ⟨hl, h0 | ⟨g, cap, cur, hv, hg, rest⟩⟩ := h
  · exact ⟨hl, .inl h0⟩
  · exact ⟨hl, .inr ⟨g, cap, cur, hv, Nat.le_trans hb hg, rest⟩⟩
def one : Nat → Nat := fun _ => 1
/-- The rows of an order, all weights 1. -/
def rowsL (n : Nat) (p q o : Nat → Nat) (k : Nat) : List Value := edgesL (rA n p q o one) (rB n p q o) (rC n p q o one) k
theorem Picked.of {w : World} {n : Int} {me m : Nat} {E O : Option Addr} {u v x fo : Nat → Int} (hE : EdgesIn w E me u v x) (hO : IntsIn w .i64 O m fo) (hk : GCode n me u v 0) (hd : Ordered me m fo) :
    Picked w n.toNat me m E O u v x fo (fun j => (u j).toNat) (fun j => (v j).toNat) (fun j => (fo j).toNat) := by
  obtain ⟨h1, h2⟩ := gcode_ok hk
  refine ⟨hE, hO, fun j hj => ?_, fun j hj => ?_⟩
  · have := h2 j hj
    unfold GoodE InE at this
    omega
  · have := hd.1 j hj
    omega
end Go.Proofs.YtipgbbhgmoehfaaDoor
