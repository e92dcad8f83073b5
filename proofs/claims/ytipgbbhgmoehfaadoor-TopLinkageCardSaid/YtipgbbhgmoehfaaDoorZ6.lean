import Derived.Sort.BigQuietIn
import Derived.Sort.QuietThIn
import Derived.Maps.AppendAt
import Derived.Deep.RegionHeld3
import Derived.IntWalk
import Derived.Deep.Strs
import Derived.Test.YtipgbbhgmoehfaaDoorYD
import Derived.Test.YtipgbbhgmoehfaaDoorYK
import Derived.Test.YtipgbbhgmoehfaaDoorYO
import Derived.Test.YtipgbbhgmoehfaaDoorZ5
import Derived.Test.YtipgbbhgmoehfaaDoorYI
import Derived.Test.YtipgbbhgmoehfaaDoorYH
/-
  A region that draws its order within a round of a range over a function, where its operations only read: the law.
-/
namespace Go.Proofs.YtipgbbhgmoehfaaDoor
open Go.RowKit
set_option linter.unusedSimpArgs false

def noDefer (ops : List Oper) : Bool := ops.all fun o => match o.op with | .defer _ => false | _ => true
theorem noDefer_at {ops : List Oper} (h : noDefer ops = true) {i : Nat} {o : Oper} (ho : ops.toArray[i]? = some o) : ∀ c, o.op ≠ .defer c := by
  intro c e
  have hm : o ∈ ops := List.mem_of_getElem? (by simpa using ho)
  have := List.all_eq_true.1 h o hm
  rw [e] at this
  cases this
theorem wpIn_op_round {n : Nat} {P : Program} {o : Oper} {l : Nat} {a : Act} {w : World} {K : Act → World → Prop} {Q : Exit → Act → World → Prop} (hd : ∀ c, o.op ≠ .defer c) (h : o.wpIn Fence.wide n P a w K Q) : o.wpIn (Fence.wide.inRound l) n P a w K Q := by
  unfold Oper.wpIn at *
  refine ⟨h.1, ?_⟩
  have h := h.2
  rw [Oper.semAt_plain _ _ _ hd] at h ⊢
  cases hr : (execOp a.eval o).run P w with
  | ok x w' => rw [hr] at h; cases x <;> exact h
  | halt x w' => rw [hr] at h; cases x <;> exact h
theorem wpAnyIn_round {n : Nat} {P : Program} {md : Region.Mode} {ops : Array Oper} {l : Nat} {Q : Exit → Act → World → Prop} (hd : ∀ (i : Nat) (o : Oper), ops[i]? = some o → ∀ c, o.op ≠ .defer c) :
    ∀ (fuel : Nat) (listed : Array Bool) (a : Act) (w : World), wpAnyIn Fence.wide n P md ops Q fuel listed a w → wpAnyIn (Fence.wide.inRound l) n P md ops Q fuel listed a w
  | 0, _, _, _, h => h
  | fuel + 1, listed, a, w, h => ⟨h.1, fun i hi => by
    have h2 := h.2 i hi
    unfold wpOpIn at h2 ⊢
    cases ho : ops[i]? with
    | none =>
      simp only [ho] at h2 ⊢
      exact wpAnyIn_round hd fuel _ _ _ h2
    | some o =>
      simp only [ho] at h2 ⊢
      by_cases hw : Region.wanted o (yielded ops a.tmps) = true
      · simp only [hw, if_true] at h2 ⊢
        exact wpIn_op_round (hd i o ho) (Oper.wpIn_mono (fun a w h => wpAnyIn_round hd fuel _ a w h) h2)
      · simp only [hw] at h2 ⊢
        exact ⟨h2.1, wpAnyIn_round hd fuel _ _ _ h2.2⟩⟩
theorem wpIn_quiet_round {n : Nat} {P : Program} {id l : Nat} {Q : Exit → Act → World → Prop} {a : Act} {w : World} {ops : List Oper} (hd : noDefer ops = true) (hm : P.follows .mixedOrders = true) (hB : Region.lexB .any ops.toArray = true)
    (h : wpQuietIn Fence.wide n P ops.toArray (fun w' => ∃ n, w' = w.drewN n) (fun a' => ∀ w', (∃ n, w' = w.drewN n) → Q .normal a' w') ops a) : (Code.region id ops.toArray true).wpIn (Fence.wide.inRound l) n P Q a w := by
  simp only [Region.lexB, Bool.and_eq_true] at hB
  refine wpIn_region_any hm (wpAnyIn_round (fun i o ho => noDefer_at hd ho) _ _ _ _ (wpAnyIn_of_quiet (C := fun w' => ∃ n, w' = w.drewN n) (Q := fun a' => ∀ w', (∃ n, w' = w.drewN n) → Q .normal a' w') rfl (fun _ w' hw' h => h w' hw') _ _ _ _ ⟨1, rfl⟩ ?_))
  have := wpAnyQIn_lex (F := Fence.wide) (n := n) (C := fun w' => ∃ n, w' = w.drewN n) (md := .any) hB.1 ops 0 (Array.replicate ops.length false) a (by simp) (by simpa using hB.2) h
  simpa using this

end Go.Proofs.YtipgbbhgmoehfaaDoor

/-
  sweep: Levels.
-/
namespace Go.Proofs.YtipgbbhgmoehfaaDoor
open Go.RowKit Go.Shelf
attribute [local go_sem] Oper.semAt_some
set_option linter.unusedSimpArgs false
set_option linter.unusedSectionVars false

/-! The levels of a sweep. -/
section
variable (me : Nat) (x : Nat → Int) (o : Nat → Nat)
/-- Does a level end with the first j edges. -/
def isEnd (j : Nat) : Bool := decide (j = me) || decide (x (o j) ≠ x (o (j - 1)))
/-- Where levels end, up to there. -/
def ends : Nat → List Nat
  | 0 => []
  | j + 1 => ends j ++ if isEnd me x o (j + 1) then [j + 1] else []
theorem ends_mem {j e : Nat} : e ∈ ends me x o j ↔ (1 ≤ e ∧ e ≤ j ∧ isEnd me x o e = true) := by
  induction j with
  | zero => simp [ends]; omega
  | succ j ih =>
    rw [ends, List.mem_append, ih]
    by_cases h : isEnd me x o (j + 1) = true
    · rw [if_pos h, List.mem_singleton]
      constructor
      · rintro (⟨h1, h2, h3⟩ | rfl)
        · exact ⟨h1, by omega, h3⟩
        · exact ⟨by omega, Nat.le_refl _, h⟩
      · rintro ⟨h1, h2, h3⟩
        by_cases e1 : e = j + 1
        · exact .inr e1
        · exact .inl ⟨h1, by omega, h3⟩
    · rw [if_neg h]
      constructor
      · rintro (⟨h1, h2, h3⟩ | h4)
        · exact ⟨h1, by omega, h3⟩
        · simp at h4
      · rintro ⟨h1, h2, h3⟩
        refine .inl ⟨h1, ?_, h3⟩
        by_cases e1 : e = j + 1
        · subst e1; exact absurd h3 h
        · omega
theorem ends_sorted (j : Nat) : (ends me x o j).Pairwise (· < ·) := by
  induction j with
  | zero => exact List.Pairwise.nil
  | succ j ih =>
    rw [ends]
    split
    · refine List.pairwise_append.2 ⟨ih, List.pairwise_singleton _ _, fun a ha b hb => ?_⟩
      have := (ends_mem me x o).1 ha
      simp at hb
      omega
    · rw [List.append_nil]; exact ih
theorem ends_len (j : Nat) : (ends me x o j).length ≤ j := by
  induction j with
  | zero => exact Nat.le_refl _
  | succ j ih => rw [ends, List.length_append]; split <;> simp <;> omega
end
/-- Four numbers a level. -/
def levV (th a b c : Nat → Int) (l : List Nat) : List Value := l.flatMap fun e => [.int .i64 (th e), .int .i64 (a e), .int .i64 (b e), .int .i64 (c e)]
theorem levV_append (th a b c : Nat → Int) (l m : List Nat) : levV th a b c (l ++ m) = levV th a b c l ++ levV th a b c m := by unfold levV; rw [List.flatMap_append]

/-- Where things lie in the loop of levels. -/
structure LE where
  B : Nat
  T : Nat
  O : Nat
  L : Nat
  S : Nat
  A : Nat
  g : Nat
  n : Nat
  me : Nat
  ce : Nat
  E : Option Addr
def LE.Free (d : LE) (k : Nat) : Prop := k ≠ d.B ∧ k ≠ d.T ∧ k ≠ d.O ∧ k ≠ d.L ∧ k ≠ d.g ∧ ¬ (d.S ≤ k ∧ k < d.S + 3)
def levW (n me : Nat) (p q o : Nat → Nat) (x : Nat → Int) (r : Nat) : List Value := levV (fun e => x (o (e - 1))) (rA n p q o one) (rB n p q o) (rC n p q o one) (ends me x o r)
section
variable {w : World} {d : LE} {p q o : Nat → Nat} {x : Nat → Int} {j r : Nat} {W W' : World}
theorem ends_same (h : isEnd d.me x o (r + 1) = false) : ends d.me x o (r + 1) = ends d.me x o r := by rw [ends, h]; simp
theorem ends_more (h : isEnd d.me x o (r + 1) = true) : ends d.me x o (r + 1) = ends d.me x o r ++ [r + 1] := by rw [ends, h]; simp
end

end Go.Proofs.YtipgbbhgmoehfaaDoor

/-
  sweep: Levels, the walk.
-/
namespace Go.Proofs.YtipgbbhgmoehfaaDoor
open Go.RowKit Go.Shelf
attribute [local go_sem] Oper.semAt_some
set_option linter.unusedSimpArgs false
set_option linter.unusedSectionVars false

theorem cell_four_new (w : World) (x y z u : Value) (t : TypeId) : ∀ j r, [x, y, z, u][j]? = some r → (w.alloc (.cells #[x, y, z, u] t)).cell? ((⟨w.heap.size, 0, none⟩ : Addr).add j) = some r := by
  intro j r h
  have hh := heap_alloc_new w (.cells #[x, y, z, u] t)
  have e : ((⟨w.heap.size, 0, none⟩ : Addr).add j) = ⟨w.heap.size, j, none⟩ := by unfold Addr.add; split <;> simp_all
  rw [e]
  exact cell_of_heap hh (by simpa using h)
end Go.Proofs.YtipgbbhgmoehfaaDoor

/-
  Chapter 27: the law's example.
-/
namespace Go.Proofs.YtipgbbhgmoehfaaDoor
open Go.RowKit
attribute [local go_sem] Oper.semAt_some
set_option linter.unusedSimpArgs false
set_option linter.unusedSectionVars false

theorem trips_lit {w : World} {b : Nat} {cs : Array Value} {T : TypeId} (h : w.heap[b]? = some (.cells cs T (0, 0))) {n : Nat} {u v x : Nat → Int} (hc : ∀ j, j < n → cs[j * 3]? = some (.int .i64 (u j)) ∧ cs[j * 3 + 1]? = some (.int .i64 (v j)) ∧ cs[j * 3 + 2]? = some (.int .i64 (x j)))
    (hwf : ∀ j, j < n → (Lit.int .i64 (u j)).wf = true ∧ (Lit.int .i64 (v j)).wf = true ∧ (Lit.int .i64 (x j)).wf = true) (hn : n ≤ maxLen) : EdgesIn w (some ⟨b, 0, none⟩) n u v x :=
  ⟨fun _ => ⟨b, 0, rfl, heap_lt h, fun j hj => by
    simp only [Nat.zero_add]
    obtain ⟨h0, h1, h2⟩ := hc j hj
    exact ⟨cell_of_heap h h0, cell_of_heap h h1, cell_of_heap h h2⟩⟩, hwf, hn⟩
theorem ints_lit {w : World} {b : Nat} {cs : Array Value} {T : TypeId} {k : IntKind} (h : w.heap[b]? = some (.cells cs T (0, 0))) {n : Nat} {f : Nat → Int} (hc : ∀ j, j < n → cs[j]? = some (.int k (f j))) (hwf : ∀ j, j < n → (Lit.int k (f j)).wf = true) (hn : n ≤ maxLen) : IntsIn w k (some ⟨b, 0, none⟩) n f :=
  ⟨fun _ => ⟨b, 0, rfl, heap_lt h, fun j hj => by rw [Nat.zero_add]; exact cell_of_heap h (hc j hj)⟩, hwf, hn⟩
def exU : Nat → Int := fun j => [0, 2, 1, 0].getD j 0
def exV : Nat → Int := fun j => [1, 3, 2, 2].getD j 0
def exX : Nat → Int := fun j => [5, 1, 5, 9].getD j 0
def exD : Nat → Nat := fun j => [3, 1, 0].getD j 0
def exO : Nat → Nat := fun j => [1, 0, 2, 3].getD j 0
theorem lt4 {j : Nat} (h : j < 4) : j = 0 ∨ j = 1 ∨ j = 2 ∨ j = 3 := by omega
theorem ex_good : GCode 4 4 exU exV 0 := by
  refine .inr ⟨by omega, .inr ⟨fun j hj => ?_, rfl⟩⟩
  unfold GoodE InE
  rcases lt4 hj with rfl | rfl | rfl | rfl <;> decide
theorem ex_ordered : Ordered 4 3 (fun j => (j : Int)) := ⟨fun i hi => by dsimp only; omega, fun i hi k hk => by dsimp only; omega⟩
theorem ex_a : ∀ j, j < 4 → rA 4 (fun j => (exU j).toNat) (fun j => (exV j).toNat) (fun j => ((j : Int)).toNat) one j = [1, 2, 2, 4].getD j 0 ∧ rB 4 (fun j => (exU j).toNat) (fun j => (exV j).toNat) (fun j => ((j : Int)).toNat) j = [4, 3, 2, 1].getD j 0 ∧ rC 4 (fun j => (exU j).toNat) (fun j => (exV j).toNat) (fun j => ((j : Int)).toNat) one j = [4, 6, 8, 16].getD j 0 := by
  intro j hj
  rcases lt4 hj with rfl | rfl | rfl | rfl <;> decide
theorem ex_b : ∀ j, j < 5 → rA 4 (fun j => (exU j).toNat) (fun j => (exV j).toNat) (sh 4 exD 3) one j = [1, 2, 3, 4, 4].getD j 0 ∧ rB 4 (fun j => (exU j).toNat) (fun j => (exV j).toNat) (sh 4 exD 3) j = [4, 3, 2, 1, 1].getD j 0 ∧ rC 4 (fun j => (exU j).toNat) (fun j => (exV j).toNat) (sh 4 exD 3) one j = [4, 6, 10, 16, 16].getD j 0 := by
  intro j hj
  have : j = 0 ∨ j = 1 ∨ j = 2 ∨ j = 3 ∨ j = 4 := by omega
  rcases this with rfl | rfl | rfl | rfl | rfl <;> decide
theorem ex_jump {f : Nat → Int} (h : ∀ j, j < 4 → f j = [1, 2, 2, 4].getD j 0) : JumpIs 4 f 3 2 := by
  have h0 : f 0 = 1 := h 0 (by omega)
  have h1 : f 1 = 2 := h 1 (by omega)
  have h2 : f 2 = 2 := h 2 (by omega)
  have h3 : f 3 = 4 := h 3 (by omega)
  refine .inl ⟨fun j hj => ?_, ?_⟩
  · rcases lt4 hj with rfl | rfl | rfl | rfl <;> omega
  · simp [jmp, h0, h1, h2, h3]
theorem ex_order {o : Nat → Nat} (h : ByWeight 4 exX o) : o 0 = 1 ∧ o 1 = 0 ∧ o 2 = 2 ∧ o 3 = 3 := by
  have key : ∀ a b c d : Fin 4, (exX a < exX b ∨ (exX a = exX b ∧ a < b)) → (exX b < exX c ∨ (exX b = exX c ∧ b < c)) → (exX c < exX d ∨ (exX c = exX d ∧ c < d)) → a = 1 ∧ b = 0 ∧ c = 2 ∧ d = 3 := by decide
  have h0 := h.lt (i := 0) (by omega)
  have h1 := h.lt (i := 1) (by omega)
  have h2 := h.lt (i := 2) (by omega)
  have h3 := h.lt (i := 3) (by omega)
  obtain ⟨k0, k1, k2, k3⟩ := key ⟨o 0, h0⟩ ⟨o 1, h1⟩ ⟨o 2, h2⟩ ⟨o 3, h3⟩ (h.up 0 1 (by omega) (by omega)) (h.up 1 2 (by omega) (by omega)) (h.up 2 3 (by omega) (by omega))
  exact ⟨congrArg Fin.val k0, congrArg Fin.val k1, congrArg Fin.val k2, congrArg Fin.val k3⟩
theorem ex_ends {o : Nat → Nat} (h : ByWeight 4 exX o) : ends 4 exX o 4 = [1, 3, 4] := by
  obtain ⟨h0, h1, h2, h3⟩ := ex_order h
  simp [ends, isEnd, h0, h1, h2, h3]
  decide
theorem labK_congr {p q o o' : Nat → Nat} {k : Nat} (h : ∀ j, j < k → o j = o' j) : labK p q o k = labK p q o' k := by
  unfold labK eprs
  congr 1
  refine List.map_congr_left fun j hj => ?_
  unfold epr
  rw [h j (List.mem_range.1 hj)]
theorem ex_lev {o : Nat → Nat} (h : ByWeight 4 exX o) : ∀ i, i < 4 → (levW 4 4 (fun j => (exU j).toNat) (fun j => (exV j).toNat) o exX 4)[4 + i]? = some (.int .i64 ([5, 4, 1, 16].getD i 0)) := by
  obtain ⟨h0, h1, h2, h3⟩ := ex_order h
  have e : labK (fun j => (exU j).toNat) (fun j => (exV j).toNat) o 3 = labK (fun j => (exU j).toNat) (fun j => (exV j).toNat) exO 3 := labK_congr fun j hj => by
    have : j = 0 ∨ j = 1 ∨ j = 2 := by omega
    rcases this with rfl | rfl | rfl <;> first | exact h0 | exact h1 | exact h2
  intro i hi
  unfold levW
  rw [ex_ends h]
  have e3 : exX (o (3 - 1)) = 5 := by rw [show 3 - 1 = 2 from rfl, h2]; decide
  have eA : rA 4 (fun j => (exU j).toNat) (fun j => (exV j).toNat) o one 3 = 4 := by unfold rA; rw [e]; decide
  have eB : rB 4 (fun j => (exU j).toNat) (fun j => (exV j).toNat) o 3 = 1 := by unfold rB; rw [e]; decide
  have eC : rC 4 (fun j => (exU j).toNat) (fun j => (exV j).toNat) o one 3 = 16 := by unfold rC; rw [e]; decide
  simp only [levV, List.flatMap_cons, List.flatMap_nil]
  rcases lt4 hi with rfl | rfl | rfl | rfl
  · simp [h2]; decide
  · simpa using eA
  · simpa using eB
  · simpa using eC
end Go.Proofs.YtipgbbhgmoehfaaDoor

/-
  Chapter 27: the law's example holds.
-/
namespace Go.Proofs.YtipgbbhgmoehfaaDoor
open Go.RowKit
attribute [local go_sem] Oper.semAt_some
set_option linter.unusedSimpArgs false
set_option linter.unusedSectionVars false

def exCells : Array Value := #[.int .i64 0, .int .i64 1, .int .i64 5, .int .i64 2, .int .i64 3, .int .i64 1, .int .i64 1, .int .i64 2, .int .i64 5, .int .i64 0, .int .i64 2, .int .i64 9]
theorem ex_wf {f : Nat → Int} {n : Nat} (h : ∀ j, j < n → 0 ≤ f j ∧ f j ≤ 100) : ∀ j, j < n → (Lit.int .i64 (f j)).wf = true := fun j hj => wf_of (by have := h j hj; omega) (by have := h j hj; omega)
theorem ex_edges {w : World} {b : Nat} (h : w.heap[b]? = some (.cells exCells 49 (0, 0))) : EdgesIn w (some ⟨b, 0, none⟩) 4 exU exV exX := by
  refine trips_lit h (fun j hj => ?_) (fun j hj => ?_) (by unfold maxLen; omega)
  · rcases lt4 hj with rfl | rfl | rfl | rfl <;> exact ⟨rfl, rfl, rfl⟩
  · rcases lt4 hj with rfl | rfl | rfl | rfl <;> decide
theorem lt3 {j : Nat} (h : j < 3) : j = 0 ∨ j = 1 ∨ j = 2 := by omega
theorem ex_ints {w : World} {b : Nat} (h : w.heap[b]? = some (.cells #[.int .i64 0, .int .i64 1, .int .i64 2] 3 (0, 0))) : IntsIn w .i64 (some ⟨b, 0, none⟩) 3 (fun j => (j : Int)) := by
  refine ints_lit h (fun j hj => ?_) (fun j hj => ?_) (by unfold maxLen; omega)
  · rcases lt3 hj with rfl | rfl | rfl <;> rfl
  · rcases lt3 hj with rfl | rfl | rfl <;> decide
theorem ex_draws {w : World} {b : Nat} {T : TypeId} (h : w.heap[b]? = some (.cells #[.int .u64 3, .int .u64 1, .int .u64 0] T (0, 0))) : IntsIn w .u64 (some ⟨b, 0, none⟩) 3 (fun j => (exD j : Int)) := by
  refine ints_lit h (fun j hj => ?_) (fun j hj => ?_) (by unfold maxLen; omega)
  · rcases lt3 hj with rfl | rfl | rfl <;> rfl
  · rcases lt3 hj with rfl | rfl | rfl <;> decide
theorem EdgesIn.congr {w : World} {A : Option Addr} {n : Nat} {u v x u' v' x' : Nat → Int} (h : EdgesIn w A n u v x) (e : ∀ j, j < n → u j = u' j ∧ v j = v' j ∧ x j = x' j) : EdgesIn w A n u' v' x' :=
  ⟨fun h0 => by
    obtain ⟨b, off, hA, hb, hc⟩ := h.row h0
    exact ⟨b, off, hA, hb, fun j hj => by
      obtain ⟨e1, e2, e3⟩ := e j hj
      rw [← e1, ← e2, ← e3]
      exact hc j hj⟩, fun j hj => by
    obtain ⟨e1, e2, e3⟩ := e j hj
    rw [← e1, ← e2, ← e3]
    exact h.wf j hj, h.len⟩
def aA : Nat → Int := fun j => [1, 2, 2, 4].getD j 0
def aB : Nat → Int := fun j => [4, 3, 2, 1].getD j 0
def aC : Nat → Int := fun j => [4, 6, 8, 16].getD j 0
def bA : Nat → Int := fun j => [1, 2, 3, 4, 4].getD j 0
def bB : Nat → Int := fun j => [4, 3, 2, 1, 1].getD j 0
def bC : Nat → Int := fun j => [4, 6, 10, 16, 16].getD j 0
theorem lt5 {j : Nat} (h : j < 5) : j = 0 ∨ j = 1 ∨ j = 2 ∨ j = 3 ∨ j = 4 := by omega
theorem wf_a : ∀ j, j < 4 → (Lit.int .i64 (aA j)).wf = true ∧ (Lit.int .i64 (aB j)).wf = true ∧ (Lit.int .i64 (aC j)).wf = true := by
  intro j hj
  rcases lt4 hj with rfl | rfl | rfl | rfl <;> decide
theorem wf_b : ∀ j, j < 5 → (Lit.int .i64 (bA j)).wf = true ∧ (Lit.int .i64 (bB j)).wf = true ∧ (Lit.int .i64 (bC j)).wf = true := by
  intro j hj
  rcases lt5 hj with rfl | rfl | rfl | rfl | rfl <;> decide
def aCells : Array Value := #[.int .i64 1, .int .i64 4, .int .i64 4, .int .i64 2, .int .i64 3, .int .i64 6, .int .i64 2, .int .i64 2, .int .i64 8, .int .i64 4, .int .i64 1, .int .i64 16]
def bCells : Array Value := #[.int .i64 1, .int .i64 4, .int .i64 4, .int .i64 2, .int .i64 3, .int .i64 6, .int .i64 3, .int .i64 2, .int .i64 10, .int .i64 4, .int .i64 1, .int .i64 16, .int .i64 4, .int .i64 1, .int .i64 16]
end Go.Proofs.YtipgbbhgmoehfaaDoor

/-
  The law's own helper made.
-/
namespace Go.Proofs.YtipgbbhgmoehfaaDoor
open Go.RowKit
set_option linter.unusedSimpArgs false
set_option linter.unusedSectionVars false

theorem wf_u16 {n : Int} (h : (Lit.int .u16 n).wf = true) : 0 ≤ n ∧ n ≤ 65535 := by simpa [Lit.wf, IntKind.min, IntKind.max, IntKind.bits, IntKind.signed] using h
theorem wf_mk {n : Int} (h0 : 0 ≤ n) (h1 : n ≤ 9223372036854775807) : (Lit.int .i64 n).wf = true := by simp [Lit.wf, IntKind.min, IntKind.max, IntKind.bits, IntKind.signed]; omega
def rowI (f : Nat → Int) (k : Nat) : List Value := (List.range k).map fun i => .int .i64 (f i)
theorem rowI_succ (f : Nat → Int) (k : Nat) : rowI f (k + 1) = rowI f k ++ [.int .i64 (f k)] := by simp [rowI, List.range_succ]
theorem cell_one_at (w : World) (x : Value) (t : TypeId) : ∀ j u, [x][j]? = some u → (w.alloc (.cells #[x] t)).cell? ((⟨w.heap.size, 0, none⟩ : Addr).add j) = some u := by
  intro j u h
  have hh := heap_alloc_new w (.cells #[x] t)
  have e : ((⟨w.heap.size, 0, none⟩ : Addr).add j) = ⟨w.heap.size, j, none⟩ := by unfold Addr.add; split <;> simp_all
  rw [e]
  exact cell_of_heap hh (by simpa using h)
/-- The list of weights that made has put together. -/
def Listed (w : World) (f : Nat → Int) (k : Nat) (v : Value) (W : World) : Prop := W.ownsRow w.heap.size 2 1 v k (rowI f k) ∧ Below w.heap.size w W
theorem Listed.next {w W W' : World} {f : Nat → Int} {k : Nat} {v v' : Value} (h : Listed w f k v W) {o : Obj} (h1 : W'.ownsRow w.heap.size 2 1 v' (k + 1) (rowI f k ++ [.int .i64 (f k)])) (hg : (W.alloc o).grownBy W' v.ownBlock) : Listed w f (k + 1) v' W' := by
  obtain ⟨h1', h2⟩ := h
  refine ⟨by rw [rowI_succ]; exact h1, (h2.alloc h2.size o).grown hg (by rw [World.size_alloc]; have := h2.size; omega) fun j hj => ?_⟩
  obtain ⟨_, ⟨rfl, rfl⟩ | ⟨g, cap, cur, rfl, hgb, _⟩⟩ := h1'
  · simp [Value.ownBlock] at hj
  · simp [Value.ownBlock] at hj; omega
theorem ints_keep {w W : World} {A : Option Addr} {n : Nat} {f : Nat → Int} {k : IntKind} (h : IntsIn w k A n f) (hb : Below w.heap.size w W) : IntsIn W k A n f := h.only (only_of_below' hb)

theorem code_u16 {n : Nat} {f : Nat → Int} (hw : ∀ j, j < n → 0 ≤ f j ∧ f j ≤ 65535) (hn : n ≤ 60) : newCode n f = 0 := by
  refine newCode_ok (by omega) (fun j hj => ⟨(hw j hj).1, by have := (hw j hj).2; omega⟩) ?_
  have : total n (wtOf f) ≤ total n (fun _ => 65535) := total_le fun a ha => by have := hw a ha; unfold wtOf; omega
  have h2 : ∀ m, total m (fun _ => 65535) = m * 65535 := fun m => by
    induction m with
    | zero => rfl
    | succ m ih => simp only [total, ih]; omega
  rw [h2] at this
  omega
end Go.Proofs.YtipgbbhgmoehfaaDoor

/-
  The law's own helper unite.
-/
namespace Go.Proofs.YtipgbbhgmoehfaaDoor
open Go.RowKit
set_option linter.unusedSimpArgs false
set_option linter.unusedSectionVars false

theorem wf_u8 {n : Int} (h : (Lit.int .u8 n).wf = true) : 0 ≤ n ∧ n ≤ 255 := by simpa [Lit.wf, IntKind.min, IntKind.max, IntKind.bits, IntKind.signed] using h
/-- A list of pairs of numbers of one kind, as it lies in memory. -/
structure PairsIn (w : World) (k : IntKind) (A : Option Addr) (n : Nat) (f g : Nat → Int) : Prop where
  row : 0 < n → ∃ b off, A = some ⟨b, off, none⟩ ∧ b < w.heap.size ∧ ∀ j, j < n → w.cell? ⟨b, off + j * 2, none⟩ = some (.int k (f j)) ∧ w.cell? ⟨b, off + j * 2 + 1, none⟩ = some (.int k (g j))
  wf : ∀ j, j < n → (Lit.int k (f j)).wf = true ∧ (Lit.int k (g j)).wf = true
  len : n ≤ maxLen
theorem PairsIn.only {w w' : World} {k : IntKind} {A : Option Addr} {n : Nat} {f g : Nat → Int} (h : PairsIn w k A n f g) (hO : Only [] w w') : PairsIn w' k A n f g :=
  ⟨fun hn => by
    obtain ⟨b, off, hA, hb, hc⟩ := h.row hn
    exact ⟨b, off, hA, Nat.lt_of_lt_of_le hb hO.size, fun j hj => ⟨(World.cell?_of_block (w := w) (hO.block b hb (by simp))).trans (hc j hj).1, (World.cell?_of_block (w := w) (hO.block b hb (by simp))).trans (hc j hj).2⟩⟩, h.wf, h.len⟩
theorem PairsIn.cell {w : World} {k : IntKind} {A : Option Addr} {n : Nat} {f g : Nat → Int} (h : PairsIn w k A n f g) {j : Nat} (hj : j < n) : ∃ b off, A = some ⟨b, off, none⟩ ∧ w.cell? ⟨b, off + j * 2, none⟩ = some (.int k (f j)) ∧ w.cell? ⟨b, off + j * 2 + 1, none⟩ = some (.int k (g j)) := by
  obtain ⟨b, off, hA, _, hc⟩ := h.row (by omega)
  exact ⟨b, off, hA, hc j hj⟩

/-- What is done to a tally. -/
structure Moves (W : World) (F : List Nat) (W' : World) (F' : List Nat) : Prop where
  only : Only F W W'
  grew : Grew W F F'
theorem Moves.refl (W : World) (F : List Nat) : Moves W F W F := ⟨Only.refl _ _, fun _ h => .inl h⟩
theorem Moves.trans {A B C : World} {F G H : List Nat} (h : Moves A F B G) (k : Moves B G C H) : Moves A F C H := by
  refine ⟨h.only.to k.only fun i hi hlt => ?_, fun j hj => ?_⟩
  · rcases h.grew i hi with hf | hf
    · exact hf
    · omega
  · rcases k.grew j hj with hf | hf
    · exact h.grew j hf
    · exact .inr (Nat.le_trans h.only.size hf)
theorem Moves.quiet {A B C : World} {F G : List Nat} (h : Moves A F B G) (k : Only [] B C) : Moves A F C G := ⟨h.only.trans (k.mono fun _ m => by simp at m), h.grew⟩
/-- The unions that unite makes, in their order. -/
def pr (n : Nat) (f g : Nat → Int) (i : Nat) : Nat × Nat := ((f i % n).toNat, (g i % n).toNat)
def cntU (n m : Nat) : Nat := if n = 0 then 0 else min m 200
def prs (n m : Nat) (f g : Nat → Int) : List (Nat × Nat) := (List.range (cntU n m)).map (pr n f g)
def idxU (c : Nat) (back : Bool) (k : Nat) : Nat := if back then c - 1 - k else k
def ordU (n m : Nat) (f g : Nat → Int) (back : Bool) (k : Nat) : List (Nat × Nat) := (List.range k).map fun i => pr n f g (idxU (cntU n m) back i)
theorem ordU_succ (n m : Nat) (f g : Nat → Int) (back : Bool) (k : Nat) : ordU n m f g back (k + 1) = ordU n m f g back k ++ [pr n f g (idxU (cntU n m) back k)] := by simp [ordU, List.range_succ]
theorem ordU_fold (n m : Nat) (f g : Nat → Int) (back : Bool) (lab : Nat → Nat) : (ordU n m f g back (cntU n m)).foldl uni lab = (prs n m f g).foldl uni lab := by
  cases back with
  | false => rfl
  | true =>
    rw [← foldl_reverse (prs n m f g)]
    congr 1
    unfold ordU prs idxU
    refine List.ext_getElem (by simp) fun i h1 h2 => ?_
    simp at h1
    simp [h1]
theorem ordU_lt {n m : Nat} {f g : Nat → Int} {back : Bool} {k : Nat} (hn : 0 < n) : ∀ p ∈ ordU n m f g back k, p.1 < n ∧ p.2 < n := by
  intro p hp
  obtain ⟨i, _, rfl⟩ := List.mem_map.1 hp
  unfold pr
  have h1 := Int.emod_lt_of_pos (f (idxU (cntU n m) back i)) (show (0 : Int) < n by omega)
  have h2 := Int.emod_lt_of_pos (g (idxU (cntU n m) back i)) (show (0 : Int) < n by omega)
  have h3 := Int.emod_nonneg (f (idxU (cntU n m) back i)) (show (n : Int) ≠ 0 by omega)
  have h4 := Int.emod_nonneg (g (idxU (cntU n m) back i)) (show (n : Int) ≠ 0 by omega)
  constructor <;> simp only <;> omega
theorem prs_lt {n m : Nat} {f g : Nat → Int} : ∀ p ∈ prs n m f g, p.1 < n ∧ p.2 < n := by
  by_cases hn : 0 < n
  · exact ordU_lt (n := n) (m := m) (f := f) (g := g) (back := false) (k := cntU n m) hn
  · obtain rfl : n = 0 := by omega
    intro p hp
    simp [prs, cntU] at hp

theorem idx_back {n m k : Nat} (hn : 0 < n) (hk : k < cntU n m) : ∃ i, idxU (cntU n m) true k = i ∧ i < m ∧
    ((m < 200 ∧ (m : Int) - 1 - (k : Int) = (i : Int) ∧ True) ∨ (200 < m ∧ (199 : Int) - (k : Int) = (i : Int) ∧ True) ∨ ((m ≤ 200 ∧ 200 ≤ m) ∧ (m : Int) - 1 - (k : Int) = (i : Int) ∧ (199 : Int) - (k : Int) = (i : Int))) := by
  have hm : cntU n m = min m 200 := by unfold cntU; rw [if_neg (by omega)]
  rw [hm] at hk ⊢
  refine ⟨_, rfl, ?_⟩
  unfold idxU
  rw [if_pos rfl]
  rcases Nat.le_total m 200 with hle | hle
  · rw [Nat.min_eq_left hle] at hk ⊢
    refine ⟨by omega, ?_⟩
    by_cases e : m = 200
    · exact .inr (.inr ⟨by omega, by omega, by omega⟩)
    · exact .inl ⟨by omega, by omega, trivial⟩
  · rw [Nat.min_eq_right hle] at hk ⊢
    refine ⟨by omega, ?_⟩
    by_cases e : m = 200
    · exact .inr (.inr ⟨by omega, by omega, by omega⟩)
    · exact .inr (.inl ⟨by omega, by omega, trivial⟩)

end Go.Proofs.YtipgbbhgmoehfaaDoor

/-
  How an argument that is a slice of pairs or triples of numbers reads.
-/
namespace Go.Proofs.YtipgbbhgmoehfaaDoor
open Go.ChangeShapes Go.WideShapes Go.RowKit
set_option linter.unusedSimpArgs false

section
variable {H : Type} {enc : TypeId × Value → H} {P : Program} {W : World} {spare : Nat → Bool} {held : Bool}

theorem cells_ink {t e : TypeId} {A : Option Addr} {len cap c : Nat} {d : DataW H} {ps : List MemPlace} (ht : P.underlying t = some (.slice e)) (hc : P.cellsOf e = c) (h0 : 0 < c)
    (good : List Value → Prop) (hgood : ∀ fuel cs x, DataW.trod enc P W 0 spare held fuel e cs = some x → good cs ∧ cs.length = c)
    (h : DataW.Trod enc P W 0 spare held t (.slice A len cap) d ps) :
    len ≤ maxLen ∧ (0 < len → ∃ b off, A = some ⟨b, off, none⟩ ∧ b < W.heap.size ∧ ∀ j, j < len → ∃ cs, good cs ∧ ∀ i u, cs[i]? = some u → W.cell? ⟨b, off + j * c + i, none⟩ = some u) := by
  obtain ⟨fuel, hf⟩ := h
  rcases DataW.trod_slice ht hf with ⟨h1, _⟩ | ⟨a, len', cap', elems, rest, n, _, h1, h2, _, hl, hm, hlen, hel, _, _⟩
  · simp only [Value.cells] at h1
    obtain ⟨rfl, rfl, rfl⟩ : A = none ∧ len = 0 ∧ cap = 0 := by simpa using h1
    exact ⟨by unfold maxLen; omega, fun h => by omega⟩
  · simp only [Value.cells] at h1
    obtain ⟨rfl, rfl, rfl⟩ : A = some a ∧ len = len' ∧ cap = cap' := by simpa using h1
    refine ⟨by omega, fun hp => ?_⟩
    have each : ∀ j, j < len → ∃ cs, good cs ∧ cs.length = c ∧ ∀ i u, cs[i]? = some u → W.cell? ((a.add (j * c)).add i) = some u := by
      intro j hj
      have h3 := hel j hj
      rw [hc, List.getElem?_eq_getElem (by omega), Option.bind_eq_some_iff] at h3
      obtain ⟨cs, hcs, hx⟩ := h3
      obtain ⟨hg, hl2⟩ := hgood _ _ _ hx
      refine ⟨cs, hg, hl2, fun i u hu => ?_⟩
      have hi := (List.getElem?_eq_some_iff.1 hu).1
      rw [(World.cells?_some hcs).2.2 i (by omega)]
      exact hu
    obtain ⟨cs0, _, hl0, hv0⟩ := each 0 hp
    obtain ⟨u0, hu0⟩ : ∃ u, cs0[0]? = some u := ⟨_, List.getElem?_eq_getElem (by omega)⟩
    obtain ⟨hs, hb⟩ := cell_lt2 (hv0 0 u0 hu0)
    obtain ⟨b, off, sp⟩ := a
    have hs' : sp = none := by
      have e : ((⟨b, off, sp⟩ : Addr).add (0 * c)).add 0 = ⟨b, off, sp⟩ := by rw [Nat.zero_mul]; rfl
      rw [e] at hs
      exact hs
    subst hs'
    refine ⟨b, off, rfl, by rw [Nat.zero_mul] at hb; exact hb, fun j hj => ?_⟩
    obtain ⟨cs, hg, _, hv⟩ := each j hj
    refine ⟨cs, hg, fun i u hu => ?_⟩
    have := hv i u hu
    have e : ((⟨b, off, none⟩ : Addr).add (j * c)).add i = ⟨b, off + j * c + i, none⟩ := by
      unfold Addr.add
      split <;> split <;> simp_all
    rwa [e] at this

/-- Pairs: arrays of two numbers. -/
theorem pairs_arr (k : IntKind) {t e e2 : TypeId} {A : Option Addr} {len cap : Nat} {d : DataW H} {ps : List MemPlace} (ht : P.underlying t = some (.slice e)) (he : P.underlying e = some (.array 2 e2)) (hk : P.underlying e2 = some (.int k)) (hc : P.cellsOf e = 2) (hc2 : P.cellsOf e2 = 1)
    (h : DataW.Trod enc P W 0 spare held t (.slice A len cap) d ps) : ∃ f g, PairsIn W k A len f g := by
  obtain ⟨h1, h3⟩ := cells_ink ht hc (by omega) (fun cs => ∃ x y, cs = [.int k x, .int k y] ∧ (Lit.int k x).wf = true ∧ (Lit.int k y).wf = true) (fun fuel cs x hx => by
    obtain ⟨xs, m, _, _, hl, hlen, hf⟩ := DataW.trod_array he hx
    rw [hc] at hl
    have f0 := hf 0 (by omega)
    have f1 := hf 1 (by omega)
    rw [hc2] at f0 f1
    rw [List.getElem?_eq_getElem (by omega)] at f0 f1
    obtain ⟨x0, e0, _, w0⟩ := DataW.trod_int hk f0
    obtain ⟨x1, e1, _, w1⟩ := DataW.trod_int hk f1
    refine ⟨⟨x0, x1, ?_, w0, w1⟩, hl⟩
    match cs, hl with
    | [u, v], _ =>
      simp at e0 e1
      rw [e0, e1]) h
  by_cases h0 : 0 < len
  · obtain ⟨b, off, rfl, hb, hcell⟩ := h3 h0
    refine ⟨fun j => match W.cell? ⟨b, off + j * 2, none⟩ with | some (.int _ x) => x | _ => 0, fun j => match W.cell? ⟨b, off + j * 2 + 1, none⟩ with | some (.int _ x) => x | _ => 0, fun _ => ⟨b, off, rfl, hb, fun j hj => ?_⟩, fun j hj => ?_, h1⟩
    · obtain ⟨cs, ⟨x, y, rfl, _, _⟩, hv⟩ := hcell j hj
      have v0 := hv 0 _ rfl
      have v1 := hv 1 _ rfl
      rw [Nat.add_zero] at v0
      simp only [v0, v1]
      exact ⟨trivial, trivial⟩
    · obtain ⟨cs, ⟨x, y, rfl, wx, wy⟩, hv⟩ := hcell j hj
      have v0 := hv 0 _ rfl
      have v1 := hv 1 _ rfl
      rw [Nat.add_zero] at v0
      simp only [v0, v1]
      exact ⟨wx, wy⟩
  · exact ⟨fun _ => 0, fun _ => 0, fun h => absurd h h0, fun j hj => by omega, h1⟩
end

end Go.Proofs.YtipgbbhgmoehfaaDoor

/-
  How an argument that is a slice of structs of three numbers reads.
-/
namespace Go.Proofs.YtipgbbhgmoehfaaDoor
open Go.ChangeShapes Go.WideShapes Go.RowKit
set_option linter.unusedSimpArgs false

/-- A list of triples of numbers of one kind, as it lies in memory. -/
structure TripsIn (w : World) (k : IntKind) (A : Option Addr) (n : Nat) (u v x : Nat → Int) : Prop where
  row : 0 < n → ∃ b off, A = some ⟨b, off, none⟩ ∧ b < w.heap.size ∧ ∀ j, j < n → w.cell? ⟨b, off + j * 3, none⟩ = some (.int k (u j)) ∧ w.cell? ⟨b, off + j * 3 + 1, none⟩ = some (.int k (v j)) ∧ w.cell? ⟨b, off + j * 3 + 2, none⟩ = some (.int k (x j))
  wf : ∀ j, j < n → (Lit.int k (u j)).wf = true ∧ (Lit.int k (v j)).wf = true ∧ (Lit.int k (x j)).wf = true
  len : n ≤ maxLen
theorem TripsIn.edges {w : World} {A : Option Addr} {n : Nat} {u v x : Nat → Int} (h : TripsIn w .i64 A n u v x) : EdgesIn w A n u v x := ⟨h.row, h.wf, h.len⟩
theorem TripsIn.only {w w' : World} {k : IntKind} {A : Option Addr} {n : Nat} {u v x : Nat → Int} (h : TripsIn w k A n u v x) (hO : Only [] w w') : TripsIn w' k A n u v x :=
  ⟨fun hn => by
    obtain ⟨b, off, hA, hb, hc⟩ := h.row hn
    have e := fun i => World.cell?_of_block (w := w) (w' := w') (a := ⟨b, i, none⟩) (hO.block b hb (by simp))
    exact ⟨b, off, hA, Nat.lt_of_lt_of_le hb hO.size, fun j hj => ⟨(e _).trans (hc j hj).1, (e _).trans (hc j hj).2.1, (e _).trans (hc j hj).2.2⟩⟩, h.wf, h.len⟩
theorem TripsIn.cell {w : World} {k : IntKind} {A : Option Addr} {n : Nat} {u v x : Nat → Int} (h : TripsIn w k A n u v x) {j : Nat} (hj : j < n) : ∃ b off, A = some ⟨b, off, none⟩ ∧ b < w.heap.size ∧ w.cell? ⟨b, off + j * 3, none⟩ = some (.int k (u j)) ∧ w.cell? ⟨b, off + j * 3 + 1, none⟩ = some (.int k (v j)) ∧ w.cell? ⟨b, off + j * 3 + 2, none⟩ = some (.int k (x j)) := by
  obtain ⟨b, off, hA, hb, hc⟩ := h.row (by omega)
  exact ⟨b, off, hA, hb, hc j hj⟩

section
variable {H : Type} {enc : TypeId × Value → H} {P : Program} {W : World} {spare : Nat → Bool} {held : Bool}

theorem one_of {k : IntKind} {t : TypeId} {n i : Nat} {cs : List Value} {y : DataW H × List MemPlace} (ht : P.underlying t = some (.int k)) (h : DataW.trod enc P W 0 spare held n t ((cs.drop i).take 1) = some y) :
    ∃ z, cs[i]? = some (.int k z) ∧ (Lit.int k z).wf = true := by
  obtain ⟨z, h1, _, h2⟩ := DataW.trod_int ht h
  refine ⟨z, ?_, h2⟩
  have e : ((cs.drop i).take 1)[0]? = some (.int k z) := by rw [h1]; rfl
  rw [List.getElem?_take] at e
  simpa using e

/-- Structs of three numbers. -/
theorem trips_struct (k : IntKind) {t e : TypeId} {f0 f1 f2 : Field} {A : Option Addr} {len cap : Nat} {d : DataW H} {ps : List MemPlace} (ht : P.underlying t = some (.slice e)) (he : P.underlying e = some (.struct #[f0, f1, f2]))
    (hk : P.underlying f0.type = some (.int k) ∧ P.underlying f1.type = some (.int k) ∧ P.underlying f2.type = some (.int k)) (ho : f0.offset = 0 ∧ f1.offset = 1 ∧ f2.offset = 2) (hc : P.cellsOf e = 3) (hc1 : P.cellsOf f0.type = 1 ∧ P.cellsOf f1.type = 1 ∧ P.cellsOf f2.type = 1)
    (h : DataW.Trod enc P W 0 spare held t (.slice A len cap) d ps) : ∃ u v x, TripsIn W k A len u v x := by
  obtain ⟨h1, h3⟩ := cells_ink ht hc (by omega) (fun cs => ∃ x y z, cs = [.int k x, .int k y, .int k z] ∧ (Lit.int k x).wf = true ∧ (Lit.int k y).wf = true ∧ (Lit.int k z).wf = true) (fun fuel cs x hx => by
    obtain ⟨y0, y1, y2, m, _, hl, g0, g1, g2⟩ := Go.Deep.trod_struct3 he hx
    rw [hc] at hl
    rw [ho.1, hc1.1] at g0
    rw [ho.2.1, hc1.2.1] at g1
    rw [ho.2.2, hc1.2.2] at g2
    obtain ⟨x0, e0, w0⟩ := one_of hk.1 g0
    obtain ⟨x1, e1, w1⟩ := one_of hk.2.1 g1
    obtain ⟨x2, e2, w2⟩ := one_of hk.2.2 g2
    refine ⟨⟨x0, x1, x2, ?_, w0, w1, w2⟩, hl⟩
    match cs, hl with
    | [a, b, c], _ =>
      simp at e0 e1 e2
      rw [e0, e1, e2]) h
  by_cases h0 : 0 < len
  · obtain ⟨b, off, rfl, hb, hcell⟩ := h3 h0
    refine ⟨fun j => match W.cell? ⟨b, off + j * 3, none⟩ with | some (.int _ x) => x | _ => 0, fun j => match W.cell? ⟨b, off + j * 3 + 1, none⟩ with | some (.int _ x) => x | _ => 0, fun j => match W.cell? ⟨b, off + j * 3 + 2, none⟩ with | some (.int _ x) => x | _ => 0, fun _ => ⟨b, off, rfl, hb, fun j hj => ?_⟩, fun j hj => ?_, h1⟩
    · obtain ⟨cs, ⟨x, y, z, rfl, _, _, _⟩, hv⟩ := hcell j hj
      have v0 := hv 0 _ rfl
      have v1 := hv 1 _ rfl
      have v2 := hv 2 _ rfl
      rw [Nat.add_zero] at v0
      simp only [v0, v1, v2]
      exact ⟨trivial, trivial, trivial⟩
    · obtain ⟨cs, ⟨x, y, z, rfl, wx, wy, wz⟩, hv⟩ := hcell j hj
      have v0 := hv 0 _ rfl
      have v1 := hv 1 _ rfl
      have v2 := hv 2 _ rfl
      rw [Nat.add_zero] at v0
      simp only [v0, v1, v2]
      exact ⟨wx, wy, wz⟩
  · exact ⟨fun _ => 0, fun _ => 0, fun _ => 0, fun h => absurd h h0, fun j hj => by omega, h1⟩
end

end Go.Proofs.YtipgbbhgmoehfaaDoor
