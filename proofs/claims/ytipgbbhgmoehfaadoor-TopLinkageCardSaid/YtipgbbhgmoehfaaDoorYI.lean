import Derived.Maps.OwnOps
import Derived.Maps.Views
import Derived.Test.YtipgbbhgmoehfaaDoorYH
import Derived.Test.YtipgbbhgmoehfaaDoorYD
/-
  Rows of pairs: how they read; same; the reads of a tally.
-/
namespace Go.Proofs.YtipgbbhgmoehfaaDoor
open Go.RowKit
set_option linter.unusedSimpArgs false

theorem cellsIt_get (L : Items) (i : Nat) (p : Int × Nat) (h : L[i]? = some p) : (cellsIt L)[i * 2]? = some (.int .i64 p.1) ∧ (cellsIt L)[i * 2 + 1]? = some (.int .i64 p.2) := by
  induction L generalizing i with
  | nil => simp at h
  | cons q L ih =>
    cases i with
    | zero =>
      simp at h
      subst h
      exact ⟨rfl, rfl⟩
    | succ i =>
      have := ih i (by simpa using h)
      rw [show (i + 1) * 2 = i * 2 + 1 + 1 by omega]
      simpa [cellsIt] using this
theorem only_of_below {w w' : World} (h : Below w.heap.size w w') : Only [] w w' := ⟨h.os, h.tape, h.output, h.size, fun k hk _ => h.block k hk⟩
theorem Labs.of {W : World} {F : List Nat} {S n : Nat} {lab : Nat → Nat} (h : DsuAt W F S n lab) : Labs n lab := fun _ ha => ⟨h.low ha, h.idem ha⟩
/-- The weight that a tally shows of an element. -/
def wgt (n : Nat) (lab wt : Nat → Nat) (a : Int) : Nat := if 0 ≤ a ∧ a < n then sumOf n lab wt (lab a.toNat) else 0

section
end
theorem wgt_le (n : Nat) (lab wt : Nat → Nat) (a : Int) : wgt n lab wt a ≤ total n wt := by
  unfold wgt
  split
  · exact sumOf_le _ _ _ _
  · omega
theorem bagOf_len_le (l : List Int) : (bagOf l).length ≤ l.length := by
  have := len_le_sz (bagOf_pos l)
  rwa [bagOf_sz] at this

end Go.Proofs.YtipgbbhgmoehfaaDoor

/-
  Tallies of the call's own; the example of chapter 10.
-/
namespace Go.Proofs.YtipgbbhgmoehfaaDoor
open Go.RowKit
set_option linter.unusedSimpArgs false
set_option linter.unusedSectionVars false

/-- Is it an element. -/
def inR (n : Nat) (a : Int) : Bool := decide (0 ≤ a ∧ a < n)
def stepU (n : Nat) (lab : Nat → Nat) (a b : Int) : Nat → Nat := if inR n a && inR n b then uni lab (a.toNat, b.toNat) else lab
def okU (n : Nat) (lab : Nat → Nat) (a b : Int) : Bool := inR n a && inR n b && decide (lab a.toNat ≠ lab b.toNat)
def erU (n : Nat) (a b : Int) : Int := if inR n a && inR n b then 0 else 3
theorem inR_iff {n : Nat} {a : Int} : inR n a = true ↔ 0 ≤ a ∧ a < n := by unfold inR; exact decide_eq_true_iff
/-- A row of numbers that lies in cells of one's own. -/
theorem ints_own {w : World} {base n : Nat} {v : Value} {f : Nat → Int} (h : w.ownsRow base 2 1 v n ((List.range n).map fun i => .int .i64 (f i))) (hw : ∀ j, j < n → (Lit.int .i64 (f j)).wf = true) : ∃ A c, v = .slice A n c ∧ IntsIn w .i64 A n f := by
  obtain ⟨hl, ⟨rfl, rfl⟩ | ⟨g, cap, cur, rfl, hg, hh, hn, hc, hs, ht⟩⟩ := h
  · exact ⟨none, 0, rfl, fun h => absurd h (by omega), fun j hj => by omega, by unfold maxLen; omega⟩
  · refine ⟨_, cap, rfl, fun _ => ⟨g, 0, rfl, heap_lt hh, fun j hj => ?_⟩, hw, by omega⟩
    rw [Nat.zero_add]
    refine cell_of_heap hh ?_
    have : ((List.range n).map fun i => Value.int .i64 (f i))[j]? = some (.int .i64 (f j)) := by simp [hj]
    rw [← ht, List.getElem?_take] at this
    rw [if_pos (by omega)] at this
    simpa using this

def exF : Nat → Int := fun j => if j = 0 then 3 else if j = 2 then 4 else 0
end Go.Proofs.YtipgbbhgmoehfaaDoor

/-
  Several new blocks one after the other.
-/
namespace Go.Proofs.YtipgbbhgmoehfaaDoor
open Go.RowKit

def allocs (w : World) : List Obj → World
  | [] => w
  | o :: l => allocs (w.alloc o) l
theorem allocs_size (l : List Obj) : ∀ w : World, (allocs w l).heap.size = w.heap.size + l.length := by
  induction l with
  | nil => exact fun _ => rfl
  | cons o l ih => intro w; rw [allocs, ih, World.size_alloc, List.length_cons]; omega
theorem allocs_only (l : List Obj) : ∀ w : World, Only [] w (allocs w l) := by
  induction l with
  | nil => exact fun w => Only.refl _ _
  | cons o l ih => exact fun w => ((Only.refl [] w).alloc o).trans (ih _)
theorem allocs_old {w : World} {l : List Obj} {k : Nat} (h : k < w.heap.size) : (allocs w l).heap[k]? = w.heap[k]? := (allocs_only l w).block k h (by simp)
theorem allocs_at {l : List Obj} : ∀ {w : World} {i : Nat} {o : Obj}, l[i]? = some o → (allocs w l).heap[w.heap.size + i]? = some o := by
  induction l with
  | nil => intro w i o h; simp at h
  | cons a l ih =>
    intro w i o h
    cases i with
    | zero =>
      simp at h
      subst h
      exact (allocs_old (w := w.alloc a) (l := l) (k := w.heap.size) (by rw [World.size_alloc]; omega)).trans (World.alloc_heap_new w a)
    | succ i =>
      have := ih (w := w.alloc a) (i := i) (o := o) (by simpa using h)
      rw [World.size_alloc, show w.heap.size + 1 + i = w.heap.size + (i + 1) by omega] at this
      exact this

end Go.Proofs.YtipgbbhgmoehfaaDoor

/-
  sweep: isOrder.
-/
namespace Go.Proofs.YtipgbbhgmoehfaaDoor
open Go.RowKit Go.Maps
set_option linter.unusedSimpArgs false
set_option linter.unusedSectionVars false

theorem keyedI : Keyed Tryd.prog 3 := int_keyed Tryd.underlying3
theorem zeroI (w : World) : (zeroValue 3).run Tryd.prog w = .ok (.int .i64 0) w := by kernel_rfl
/-- Different indexes below m. -/
def Ordered (m n : Nat) (f : Nat → Int) : Prop := (∀ i, i < n → 0 ≤ f i ∧ f i < m) ∧ ∀ i, i < n → ∀ k, k < i → f k ≠ f i
theorem Ordered.pre {m n k : Nat} {f : Nat → Int} (h : Ordered m n f) (hk : k ≤ n) : Ordered m k f := ⟨fun i hi => h.1 i (by omega), fun i hi => h.2 i (by omega)⟩
theorem pigeon : ∀ (m n : Nat) (f : Nat → Nat), (∀ i, i < n → f i < m) → (∀ i, i < n → ∀ k, k < i → f k ≠ f i) → n ≤ m
  | 0, n, f, h, _ => by
    cases n with
    | zero => exact Nat.le_refl _
    | succ k => exact absurd (h 0 (by omega)) (by omega)
  | m + 1, 0, f, _, _ => Nat.zero_le _
  | m + 1, k + 1, f, h, hd => by
    have := pigeon m k (fun i => if f i = m then f k else f i) (fun i hi => by
      have h1 := h i (by omega)
      have h2 := h k (by omega)
      have h3 := hd k (by omega) i hi
      show (if f i = m then f k else f i) < m
      split <;> omega) (fun i hi j hj => by
      have h1 := hd i (by omega) j hj
      have h2 := hd k (by omega) i hi
      have h3 := hd k (by omega) j (by omega)
      show (if f j = m then f k else f j) ≠ (if f i = m then f k else f i)
      split <;> split <;> omega)
    omega
theorem Ordered.le {m n : Nat} {f : Nat → Int} (h : Ordered m n f) : n ≤ m := by
  refine pigeon m n (fun i => (f i).toNat) (fun i hi => ?_) fun i hi k hk => ?_
  · have := h.1 i hi
    show (f i).toNat < m
    omega
  · have h1 := h.1 i hi
    have h2 := h.1 k (by omega)
    have h3 := h.2 i hi k hk
    show (f k).toNat ≠ (f i).toNat
    omega
/-- The numbers of times after k elements. -/
def Timed (f : Nat → Int) (k : Nat) (D : DataW Unit) : Prop := IsMap D ∧ ∀ a : Int, ∃ c : Int, D.atKey (.int .i64 a) (.lit (.int .i64 0)) = .lit (.int .i64 c) ∧ ((c = 0 ∧ ∀ j, j < k → f j ≠ a) ∨ (c = 1 ∧ ∃ j, j < k ∧ f j = a))
theorem Timed.start (f : Nat → Int) : Timed f 0 (.map []) := ⟨isMap_empty, fun a => ⟨0, rfl, .inl ⟨rfl, fun j hj => by omega⟩⟩⟩
theorem Timed.next {f : Nat → Int} {k : Nat} {D : DataW Unit} (h : Timed f k D) : Timed f (k + 1) (D.put (.int .i64 (f k)) (.lit (.int .i64 1))) := by
  refine ⟨h.1.put _ _, fun a => ?_⟩
  by_cases e : a = f k
  · subst e
    exact ⟨1, atKey_put_same h.1 (by simp [WideAt.IsKeyLit]) _ _, .inr ⟨rfl, k, by omega, rfl⟩⟩
  · obtain ⟨c, hc, hd⟩ := h.2 a
    refine ⟨c, by rw [atKey_put_other (by intro e2; cases e2; exact e rfl)]; exact hc, ?_⟩
    rcases hd with ⟨rfl, hd⟩ | ⟨rfl, j, hj, hd⟩
    · refine .inl ⟨rfl, fun j hj => ?_⟩
      by_cases ej : j = k
      · subst ej; exact fun e2 => e e2.symm
      · exact hd j (by omega)
    · exact .inr ⟨rfl, j, by omega, hd⟩
end Go.Proofs.YtipgbbhgmoehfaaDoor

/-
  Edges: how they lie, their clone.
-/
namespace Go.Proofs.YtipgbbhgmoehfaaDoor
open Go.RowKit
set_option linter.unusedSimpArgs false
set_option linter.unusedSectionVars false

theorem infoEdge : (Tryd.prog.info? 49).map (fun i => (i.zero, i.size, i.bytes)) = some (some (.agg #[.int .i64 0, .int .i64 0, .int .i64 0]), 3, 24) := by kernel_rfl
/-- A list of edges, as it lies in memory. -/
structure EdgesIn (w : World) (A : Option Addr) (n : Nat) (u v x : Nat → Int) : Prop where
  row : 0 < n → ∃ b off, A = some ⟨b, off, none⟩ ∧ b < w.heap.size ∧ ∀ j, j < n → w.cell? ⟨b, off + j * 3, none⟩ = some (.int .i64 (u j)) ∧ w.cell? ⟨b, off + j * 3 + 1, none⟩ = some (.int .i64 (v j)) ∧ w.cell? ⟨b, off + j * 3 + 2, none⟩ = some (.int .i64 (x j))
  wf : ∀ j, j < n → (Lit.int .i64 (u j)).wf = true ∧ (Lit.int .i64 (v j)).wf = true ∧ (Lit.int .i64 (x j)).wf = true
  len : n ≤ maxLen
theorem EdgesIn.only {w w' : World} {A : Option Addr} {n : Nat} {u v x : Nat → Int} (h : EdgesIn w A n u v x) (hO : Only [] w w') : EdgesIn w' A n u v x :=
  ⟨fun hn => by
    obtain ⟨b, off, hA, hb, hc⟩ := h.row hn
    have e := fun i => World.cell?_of_block (w := w) (w' := w') (a := ⟨b, i, none⟩) (hO.block b hb (by simp))
    exact ⟨b, off, hA, Nat.lt_of_lt_of_le hb hO.size, fun j hj => ⟨(e _).trans (hc j hj).1, (e _).trans (hc j hj).2.1, (e _).trans (hc j hj).2.2⟩⟩, h.wf, h.len⟩
theorem EdgesIn.cell {w : World} {A : Option Addr} {n : Nat} {u v x : Nat → Int} (h : EdgesIn w A n u v x) {j : Nat} (hj : j < n) : ∃ b off, A = some ⟨b, off, none⟩ ∧ b < w.heap.size ∧ w.cell? ⟨b, off + j * 3, none⟩ = some (.int .i64 (u j)) ∧ w.cell? ⟨b, off + j * 3 + 1, none⟩ = some (.int .i64 (v j)) ∧ w.cell? ⟨b, off + j * 3 + 2, none⟩ = some (.int .i64 (x j)) := by
  obtain ⟨b, off, hA, hb, hc⟩ := h.row (by omega)
  exact ⟨b, off, hA, hb, hc j hj⟩
def ecell (u v x : Nat → Int) (j : Nat) : Int := if j % 3 = 0 then u (j / 3) else if j % 3 = 1 then v (j / 3) else x (j / 3)
def edgesL (u v x : Nat → Int) (m : Nat) : List Value := (List.range (m * 3)).map fun j => .int .i64 (ecell u v x j)
theorem edgesL_get (u v x : Nat → Int) {m j : Nat} (h : j < m * 3) : (edgesL u v x m)[j]? = some (.int .i64 (ecell u v x j)) := by
  unfold edgesL
  simp [h]
theorem ecell_0 (u v x : Nat → Int) (i : Nat) : ecell u v x (i * 3) = u i := by
  unfold ecell
  rw [if_pos (by omega), show i * 3 / 3 = i by omega]
theorem ecell_1 (u v x : Nat → Int) (i : Nat) : ecell u v x (i * 3 + 1) = v i := by
  unfold ecell
  rw [if_neg (by omega), if_pos (by omega), show (i * 3 + 1) / 3 = i by omega]
theorem ecell_2 (u v x : Nat → Int) (i : Nat) : ecell u v x (i * 3 + 2) = x i := by
  unfold ecell
  rw [if_neg (by omega), if_neg (by omega), show (i * 3 + 2) / 3 = i by omega]
theorem edgesL_succ (u v x : Nat → Int) (m : Nat) : edgesL u v x (m + 1) = edgesL u v x m ++ [.int .i64 (u m), .int .i64 (v m), .int .i64 (x m)] := by
  unfold edgesL
  rw [show (m + 1) * 3 = m * 3 + 1 + 1 + 1 by omega, List.range_succ, List.range_succ, List.range_succ]
  simp only [List.map_append, List.map_cons, List.map_nil, List.append_assoc, List.cons_append, List.nil_append]
  rw [ecell_0, ecell_1, show m * 3 + 1 + 1 = m * 3 + 2 by omega, ecell_2]
theorem EdgesIn.flat {w : World} {A : Option Addr} {n : Nat} {u v x : Nat → Int} (h : EdgesIn w A n u v x) {j : Nat} (hj : j < n * 3) : ∃ b off, A = some ⟨b, off, none⟩ ∧ w.cell? ⟨b, off + j, none⟩ = some (.int .i64 (ecell u v x j)) := by
  obtain ⟨b, off, hA, _, h0, h1, h2⟩ := h.cell (j := j / 3) (by omega)
  refine ⟨b, off, hA, ?_⟩
  have hm : j % 3 = 0 ∨ j % 3 = 1 ∨ j % 3 = 2 := by omega
  rcases hm with e | e | e
  · have : j = j / 3 * 3 := by omega
    rw [this, ecell_0]; exact h0
  · have : j = j / 3 * 3 + 1 := by omega
    rw [this, ecell_1]; exact h1
  · have : j = j / 3 * 3 + 2 := by omega
    rw [this, ecell_2]; exact h2
theorem edges_own {w : World} {base n : Nat} {val : Value} {u v x : Nat → Int} (h : w.ownsRow base 49 3 val n (edgesL u v x n)) (hwf : ∀ j, j < n → (Lit.int .i64 (u j)).wf = true ∧ (Lit.int .i64 (v j)).wf = true ∧ (Lit.int .i64 (x j)).wf = true) :
    ∃ A c, val = .slice A n c ∧ EdgesIn w A n u v x := by
  obtain ⟨hl, ⟨rfl, rfl⟩ | ⟨g, cap, cur, rfl, hg, hh, hn, hc, hs, ht⟩⟩ := h
  · exact ⟨none, 0, rfl, fun h => by omega, hwf, by unfold maxLen; omega⟩
  · refine ⟨_, cap, rfl, fun h0 => ⟨g, 0, rfl, heap_lt hh, fun j hj => ?_⟩, hwf, by omega⟩
    have e : ∀ i, i < n * 3 → w.cell? ⟨g, 0 + i, none⟩ = some (.int .i64 (ecell u v x i)) := fun i hi => by
      have := edgesL_get u v x hi
      rw [← ht, List.getElem?_take, if_pos (by omega)] at this
      rw [Nat.zero_add]
      exact cell_of_heap hh (by simpa using this)
    have e0 := e (j * 3) (by omega)
    have e1 := e (j * 3 + 1) (by omega)
    have e2 := e (j * 3 + 2) (by omega)
    rw [ecell_0] at e0
    rw [ecell_1] at e1
    rw [ecell_2] at e2
    exact ⟨e0, e1, e2⟩

set_option maxRecDepth 100000 in
set_option maxHeartbeats 2000000 in
theorem Clone_edges (A : Option Addr) (n c : Nat) (u v x : Nat → Int) (w : World) (h : EdgesIn w A n u v x) (hn : n ≤ 65536) : Calls Tryd.prog 38 #[.slice A n c] w fun e w' => ∃ A' c', e = .returned (.slice A' n c') ∧ EdgesIn w' A' n u v x ∧ Only [] w w' := by
  obtain ⟨i0, hi, hz0, hz1, hz2⟩ := info_parts infoEdge
  have q : ∀ (w : World) (a : Option Addr) (n c n' c' : Nat), (binOp .eql 22 (.slice a n c) (.slice none n' c')).run Tryd.prog w = .ok (.bool a.isNone) w := fun w a n c n' c' => Lib.run_eql_slice_nil w _ _ a n c n' c' Tryd.underlying22
  have ur : ∀ w, Sem.run Tryd.prog (underlying 22) w = .ok (TypeDesc.slice 49) w := run_underlying Tryd.underlying22
  have HR := Lib.hid h
  clear h
  cases A with
  | none =>
    obtain rfl : n = 0 := by
      rcases Nat.eq_zero_or_pos n with h | h
      · exact h
      · obtain ⟨b, off, hA, _⟩ := HR.out.row h; cases hA
    go_enter Tryd.func38, Tryd.ntmps38
    go_wp2_with fail
    go_ret
    exact ⟨none, 0, rfl, HR.out, Only.refl _ _⟩
  | some a =>
    go_enter Tryd.func38, Tryd.ntmps38
    go_wp2_with (at_builtin; refine wpList_append_own _ rfl _ _ 22 rfl w.heap.size 49 i0 (.agg #[.int .i64 0, .int .i64 0, .int .i64 0]) 3 24 Tryd.underlying22 hi hz0 hz1 hz2 rfl (by decide) _ _ _ rfl (World.ownsRow_made w #[] 0 (Nat.le_refl _) (Nat.zero_le _) rfl) a n c (edgesL u v x n) rfl ?qc1 ?qc2 ?qc3 ?qc4 ?qc5 ?qc6 ?_)
    case qc1 => simp [edgesL]
    case qc2 =>
      intro j y hj
      have hjn : j < n * 3 := by
        have := (List.getElem?_eq_some_iff.1 hj).1
        simpa [edgesL] using this
      obtain ⟨b, off, hA, hc⟩ := HR.out.flat hjn
      cases hA
      rw [edgesL_get u v x hjn] at hj
      rw [Addr.add_lit]
      refine Lib.cell?_alloc_some _ ?_
      rw [hc]; exact hj
    case qc3 => intro y hy; obtain ⟨z, _, rfl⟩ := List.mem_map.1 hy; rfl
    case qc4 => unfold maxLen; omega
    case qc5 => omega
    case qc6 => simp
    intro v' w1 hown hgrow hnil
    go_wp2
    go_ret
    obtain ⟨A', c', rfl, hE⟩ := edges_own (u := u) (v := v) (x := x) (n := n) (by simpa using hown) HR.out.wf
    refine ⟨A', c', rfl, hE, ?_⟩
    exact only_of_below' (((Below.refl _ w).alloc (Nat.le_refl _) _).grown hgrow (by simp) (by intro k hk; simp [Value.ownBlock] at hk; omega))

end Go.Proofs.YtipgbbhgmoehfaaDoor
