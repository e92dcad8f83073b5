import Derived.WalkKit
import Derived.OpenShut
import Derived.ChangeSlices
import Derived.SizedLaws
import Derived.Laws.Cover2
import Derived.Test.YtipgbbhgmoehfaaDoorYG
import Derived.Test.YtipgbbhgmoehfaaDoorYF
import Derived.Test.YtipgbbhgmoehfaaDoorRows
import Derived.Test.YtipgbbhgmoehfaaDoorYD
/-
  A new tally: build.
-/
namespace Go.Proofs.YtipgbbhgmoehfaaDoor
open Go.RowKit
set_option linter.unusedSimpArgs false
set_option linter.unusedSectionVars false

theorem mk_ints64 (n : Nat) (hn : n ≤ 2147483647) (w : World) : (Instr.makeSlice 24 (.int .i64 (n : Int)) (.int .i64 (n : Int))).run Tryd.prog w = .ok (.slice (some ⟨w.heap.size, 0, none⟩) n n) (w.alloc (.cells (madeCells #[.int .i64 0] n) 2)) :=
  run_make_row' 24 2 (.int .i64 0) 8 Tryd.underlying24 infoInt64 rfl .i64 .i64 n (by omega) (by omega) w
theorem made_row64 {w : World} {g n : Nat} (h : w.heap[g]? = some (.cells (madeCells #[.int .i64 0] n) 2 (0, 0))) : Row64 w g n (fun _ => 0) := by
  obtain ⟨c, hc, r⟩ := World.rowIs_made w (.int .i64 0) n 2
  rw [heap_alloc_new] at hc
  cases hc
  exact ⟨_, h, r.2⟩
theorem sumOf_id {n : Nat} {wt : Nat → Nat} {a : Nat} (ha : a < n) : sumOf n id wt a = wt a := by
  unfold sumOf
  rw [← total_at ha (wt a)]
  exact total_congr fun b _ => by
    by_cases e : b = a
    · subst e; simp
    · rw [if_neg e, if_neg (show ¬ id b = a from e)]
theorem setsL_id (n : Nat) (wt : Nat → Nat) : setsL n id wt = (List.range n).map fun a => (wt a : Int) := by
  unfold setsL
  rw [List.filter_eq_self.2 (fun a _ => by simp)]
  refine List.map_congr_left fun a ha => ?_
  rw [sumOf_id (List.mem_range.1 ha)]

section
end

end Go.Proofs.YtipgbbhgmoehfaaDoor

/-
  How an argument that is a slice of numbers reads: as a list of words, each within its kind, all of them in memory.
-/
namespace Go.Proofs.YtipgbbhgmoehfaaDoor
open Go.ChangeShapes Go.WideShapes Go.RowKit

section
variable {H : Type} {enc : TypeId × Value → H} {P : Program} {W : World} {spare : Nat → Bool} {held : Bool}

theorem cell_lt2 {w : World} {a : Addr} {v : Value} (h : w.cell? a = some v) : a.spot = none ∧ a.block < w.heap.size := by
  unfold World.cell? at h
  split at h
  · rename_i c _ _ heq
    split at h
    · cases h
    · rename_i hs
      refine ⟨by simpa using hs, ?_⟩
      exact (Array.getElem?_eq_some_iff.1 heq).1
  · cases h

/-- A slice whose elements take one cell each: what lies at its places. -/
theorem cells_in {t e : TypeId} {A : Option Addr} {len cap : Nat} {d : DataW H} {ps : List MemPlace} (ht : P.underlying t = some (.slice e)) (hc : P.cellsOf e = 1)
    (good : Value → Prop) (hgood : ∀ fuel cs x, DataW.trod enc P W 0 spare held fuel e cs = some x → ∃ v, cs = [v] ∧ good v)
    (h : DataW.Trod enc P W 0 spare held t (.slice A len cap) d ps) :
    len ≤ maxLen ∧ (len = 0 ∨ ∃ el sp, d = .slice el sp ∧ el.length = len) ∧
      (0 < len → ∃ b off, A = some ⟨b, off, none⟩ ∧ b < W.heap.size ∧ ∀ j, j < len → ∃ v, W.cell? ⟨b, off + j, none⟩ = some v ∧ good v) := by
  obtain ⟨fuel, hf⟩ := h
  rcases DataW.trod_slice ht hf with ⟨h0, _⟩ | ⟨a, len', cap', elems, rest, n, _, h1, h2, _, hl, hm, hlen, hel, _, _⟩
  · simp only [Value.cells] at h0
    obtain ⟨rfl, rfl, rfl⟩ : A = none ∧ len = 0 ∧ cap = 0 := by simpa using h0
    exact ⟨by unfold maxLen; omega, Or.inl rfl, fun h => by omega⟩
  · simp only [Value.cells] at h1
    obtain ⟨rfl, rfl, rfl⟩ : A = some a ∧ len = len' ∧ cap = cap' := by simpa using h1
    have h2' : d = .slice (elems.map (·.1)) (rest.map (·.1)) := congrArg Prod.fst h2
    refine ⟨by omega, Or.inr ⟨_, _, h2', by simp [hlen]⟩, fun h0 => ?_⟩
    have each : ∀ j, j < len → ∃ v, W.cell? (a.add j) = some v ∧ good v := by
      intro j hj
      have h3 := hel j hj
      rw [hc, Nat.mul_one, List.getElem?_eq_getElem (by omega), Option.bind_eq_some_iff] at h3
      obtain ⟨cs, hcs, hx⟩ := h3
      obtain ⟨v, rfl, hg⟩ := hgood _ _ _ hx
      exact ⟨v, cell_of_cells?_one hcs, hg⟩
    obtain ⟨v0, hv0, _⟩ := each 0 h0
    obtain ⟨hs, hb⟩ := cell_lt2 hv0
    obtain ⟨b, off, sp⟩ := a
    simp only [Addr.add] at hs hb
    have hs' : sp = none := by simpa using hs
    subst hs'
    refine ⟨b, off, rfl, by simpa using hb, fun j hj => ?_⟩
    obtain ⟨v, hv, hg⟩ := each j hj
    refine ⟨v, ?_, hg⟩
    rw [← hv]
    unfold Addr.add
    split
    · rename_i h; subst h; rfl
    · rfl

theorem slice_nil {t e : TypeId} {len cap : Nat} {d : DataW H} {ps : List MemPlace} (ht : P.underlying t = some (.slice e)) (h : DataW.Trod enc P W 0 spare held t (.slice none len cap) d ps) : cap = 0 := by
  obtain ⟨fuel, hf⟩ := h
  rcases DataW.trod_slice ht hf with ⟨h0, _⟩ | ⟨a, len', cap', elems, rest, n, _, h1, _⟩
  · simp only [Value.cells] at h0
    have h0' : len = 0 ∧ cap = 0 := by simpa using h0
    exact h0'.2
  · simp only [Value.cells] at h1
    simp at h1

/-- A list of whole numbers of one kind, as it lies in memory. -/
structure IntsIn (w : World) (k : IntKind) (A : Option Addr) (n : Nat) (f : Nat → Int) : Prop where
  row : 0 < n → ∃ b off, A = some ⟨b, off, none⟩ ∧ b < w.heap.size ∧ ∀ j, j < n → w.cell? ⟨b, off + j, none⟩ = some (.int k (f j))
  wf : ∀ j, j < n → (Lit.int k (f j)).wf = true
  len : n ≤ maxLen

theorem ints_in (k : IntKind) {t e : TypeId} {A : Option Addr} {len cap : Nat} {d : DataW H} {ps : List MemPlace} (ht : P.underlying t = some (.slice e)) (he : P.underlying e = some (.int k)) (hc : P.cellsOf e = 1)
    (h : DataW.Trod enc P W 0 spare held t (.slice A len cap) d ps) :
    ∃ f, IntsIn W k A len f ∧ (len = 0 ∨ ∃ el sp, d = .slice el sp ∧ el.length = len) := by
  obtain ⟨h1, h2, h3⟩ := cells_in ht hc (fun v => ∃ b, v = .int k b ∧ (Lit.int k b).wf = true) (fun fuel cs x hx => by
    obtain ⟨b, rfl, _, hw⟩ := DataW.trod_int he hx
    exact ⟨_, rfl, b, rfl, hw⟩) h
  by_cases h0 : 0 < len
  · obtain ⟨b, off, rfl, hb, hcell⟩ := h3 h0
    refine ⟨fun j => match W.cell? ⟨b, off + j, none⟩ with | some (.int _ x) => x | _ => 0, ⟨fun _ => ⟨b, off, rfl, hb, fun j hj => ?_⟩, fun j hj => ?_, h1⟩, h2⟩
    · obtain ⟨v, hv, x, rfl, hx⟩ := hcell j hj
      simp only [hv]
    · obtain ⟨v, hv, x, rfl, hx⟩ := hcell j hj
      simp only [hv]
      exact hx
  · exact ⟨fun _ => 0, ⟨fun h => absurd h h0, fun j hj => by omega, h1⟩, h2⟩
end

end Go.Proofs.YtipgbbhgmoehfaaDoor

/-
  A new tally: New, Even.
-/
namespace Go.Proofs.YtipgbbhgmoehfaaDoor
open Go.RowKit
set_option linter.unusedSimpArgs false
set_option linter.unusedSectionVars false

theorem IntsIn.cell {w : World} {k : IntKind} {A : Option Addr} {n : Nat} {f : Nat → Int} (h : IntsIn w k A n f) {j : Nat} (hj : j < n) : ∃ b off, A = some ⟨b, off, none⟩ ∧ w.cell? ⟨b, off + j, none⟩ = some (.int k (f j)) := by
  obtain ⟨b, off, hA, _, hc⟩ := h.row (by omega)
  exact ⟨b, off, hA, hc j hj⟩
theorem IntsIn.only {w w' : World} {k : IntKind} {A : Option Addr} {n : Nat} {f : Nat → Int} (h : IntsIn w k A n f) (hO : Only [] w w') : IntsIn w' k A n f :=
  ⟨fun hn => by
    obtain ⟨b, off, hA, hb, hc⟩ := h.row hn
    exact ⟨b, off, hA, Nat.lt_of_lt_of_le hb hO.size, fun j hj => (World.cell?_of_block (w := w) (hO.block b hb (by simp))).trans (hc j hj)⟩, h.wf, h.len⟩
theorem wf_i64 {n : Int} (h : (Lit.int .i64 n).wf = true) : -9223372036854775808 ≤ n ∧ n ≤ 9223372036854775807 := by simpa [Lit.wf, IntKind.min, IntKind.max, IntKind.bits, IntKind.signed] using h

theorem total_ones (n : Nat) : total n (fun _ => 1) = n := by
  induction n with
  | zero => rfl
  | succ n ih => simp only [total, ih]
/-- The weights of New are within what it allows. -/
def Fit (f : Nat → Int) (k : Nat) : Prop := ∀ j, j < k → 0 ≤ f j ∧ f j ≤ 1099511627776
instance (f : Nat → Int) (k : Nat) : Decidable (Fit f k) := inferInstanceAs (Decidable (∀ j, j < k → 0 ≤ f j ∧ f j ≤ 1099511627776))
def wtOf (f : Nat → Int) : Nat → Nat := fun j => (f j).toNat
/-- The error of New. -/
def newCode (n : Nat) (f : Nat → Int) : Int := if n ≤ 65536 ∧ Fit f n then (if total n (wtOf f) ≤ 3037000499 then 0 else 7) else 2
theorem newCode_long {n : Nat} {f : Nat → Int} (h : 65536 < n) : newCode n f = 2 := if_neg fun e => by omega
theorem newCode_bad {n k : Nat} {f : Nat → Int} (hk : k < n) (h : f k < 0 ∨ 1099511627776 < f k) : newCode n f = 2 := if_neg fun e => by have := e.2 k hk; omega
theorem newCode_over {n : Nat} {f : Nat → Int} (hn : n ≤ 65536) (h : Fit f n) (ht : 3037000499 < total n (wtOf f)) : newCode n f = 7 := by unfold newCode; rw [if_pos ⟨hn, h⟩, if_neg (by omega)]
theorem newCode_ok {n : Nat} {f : Nat → Int} (hn : n ≤ 65536) (h : Fit f n) (ht : total n (wtOf f) ≤ 3037000499) : newCode n f = 0 := by unfold newCode; rw [if_pos ⟨hn, h⟩, if_pos ht]
theorem total_wt {n : Nat} {f : Nat → Int} (h : Fit f n) : total n (wtOf f) ≤ n * 1099511627776 := by
  induction n with
  | zero => exact Nat.le_refl _
  | succ n ih =>
    have := ih fun j hj => h j (by omega)
    have := h n (by omega)
    unfold wtOf at *
    simp only [total]
    omega
theorem sq_over {s : Nat} (h0 : 0 < s) : decide ((s : Int) > 9223372036854775807 / (s : Int)) = decide (3037000499 < s) := by
  rw [decide_eq_decide]
  have e : (9223372036854775807 : Int) / (s : Int) = ((9223372036854775807 / s : Nat) : Int) := rfl
  rw [e]
  by_cases h : 3037000499 < s
  · have h1 : 9223372036854775807 / s < s := (Nat.div_lt_iff_lt_mul h0).2 (Nat.lt_of_lt_of_le (by decide) (Nat.mul_le_mul h h))
    omega
  · have h1 : s ≤ 9223372036854775807 / s := (Nat.le_div_iff_mul_le h0).2 (Nat.le_trans (Nat.mul_le_mul (show s ≤ 3037000499 by omega) (show s ≤ 3037000499 by omega)) (by decide))
    omega

end Go.Proofs.YtipgbbhgmoehfaaDoor

/-
  The iterator over the weights of a tally.
-/
namespace Go.Proofs.YtipgbbhgmoehfaaDoor
open Go.RowKit Go.Shelf
attribute [local go_sem] Oper.semAt_some
set_option linter.unusedSimpArgs false

end Go.Proofs.YtipgbbhgmoehfaaDoor

/-
  The weights of a tally, collected.
-/
namespace Go.Proofs.YtipgbbhgmoehfaaDoor
open Go.RowKit Go.Shelf
attribute [local go_sem] Oper.semAt_some
set_option linter.unusedSimpArgs false

def cellsIt : Items → List Value
  | [] => []
  | p :: l => .int .i64 p.1 :: .int .i64 p.2 :: cellsIt l
theorem cellsIt_append (a b : Items) : cellsIt (a ++ b) = cellsIt a ++ cellsIt b := by
  induction a with
  | nil => rfl
  | cons p a ih => simp only [List.cons_append, cellsIt, ih]
theorem cell_two_new (w : World) (x y : Value) (t : TypeId) : ∀ j u, [x, y][j]? = some u → (w.alloc (.cells #[x, y] t)).cell? ((⟨w.heap.size, 0, none⟩ : Addr).add j) = some u := by
  intro j u h
  have hh := heap_alloc_new w (.cells #[x, y] t)
  have e : ((⟨w.heap.size, 0, none⟩ : Addr).add j) = ⟨w.heap.size, j, none⟩ := by unfold Addr.add; split <;> simp_all
  rw [e]
  exact cell_of_heap hh (by simpa using h)
theorem row_slice {W : World} {base e size n : Nat} {v : Value} {xs : List Value} (h : W.ownsRow base e size v n xs) : ∃ A c, v = .slice A n c := by
  rcases h.2 with ⟨rfl, rfl⟩ | ⟨g, cap, cur, rfl, _⟩
  · exact ⟨_, _, rfl⟩
  · exact ⟨_, _, rfl⟩
theorem kept_appended {W w3 : World} {n0 B e size n k : Nat} {v v' : Value} {xs : List Value} {tmp : Obj} {cs : Array Value} {T : TypeId} {f : Nat × Nat} (hrow : W.ownsRow n0 e size v n xs) (hg : (W.alloc tmp).grownBy w3 v.ownBlock) (hk : W.heap[k]? = some (.cells cs T f)) (hT : T ≠ e) (hB : k ≠ B) :
    (w3.setCell ⟨B, 0, none⟩ v').heap[k]? = some (.cells cs T f) := by
  rw [heap_setCell_other _ _ _ _ (by exact hB)]
  have h1 : k < W.heap.size := heap_lt hk
  rw [hg.block k (by rw [World.size_alloc]; omega) ?_, heap_alloc_old _ _ h1, hk]
  rintro h
  rcases hrow.2 with ⟨rfl, _⟩ | ⟨g, cap, cur, rfl, _, hgb, _⟩
  · simp [Value.ownBlock] at h
  · obtain rfl : k = g := by simpa [Value.ownBlock] using h
    rw [hgb] at hk
    cases hk
    exact hT rfl
end Go.Proofs.YtipgbbhgmoehfaaDoor
