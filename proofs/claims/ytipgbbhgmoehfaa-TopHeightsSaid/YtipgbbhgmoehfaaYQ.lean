import Derived.Sort.BigQuietIn
import Derived.Sort.QuietThIn
import Derived.Maps.AppendAt
import Derived.Test.YtipgbbhgmoehfaaYD
import Derived.Test.YtipgbbhgmoehfaaYK
import Derived.Test.YtipgbbhgmoehfaaYO
import Derived.Test.YtipgbbhgmoehfaaYN
import Derived.Test.YtipgbbhgmoehfaaYM
/-
  A region that draws its order within a round of a range over a function, where its operations only read: the law.
-/
namespace Go.Proofs.Ytipgbbhgmoehfaa
open Go.RowKit
set_option linter.unusedSimpArgs false

def noDefer (ops : List Oper) : Bool := ops.all fun o => match o.op with | .defer _ => false | _ => true
theorem noDefer_at {ops : List Oper} (h : noDefer ops = true) {i : Nat} {o : Oper} (ho : ops.toArray[i]? = some o) : ∀ c, o.op ≠ .defer c := by
  intro c e
  have hm : o ∈ ops := List.mem_of_getElem? (by simpa using ho)
  have := List.all_eq_true.1 h o hm
  rw [e] at this
  cases this
theorem wpIn_op_round {n : Nat} {P : Program} {o : Oper} {l : Nat} {a : Act} {w : World} {K : Act → World → Prop} {Q : Exit → Act → World → Prop} (hd : ∀ c, o.op ≠ .defer c) (h : o.wpIn Fence.wide n P a w K Q) : o.wpIn (Fence.wide.inRound l) n P a w K Q := by
  unfold Oper.wpIn at *
  refine ⟨h.1, ?_⟩
  have h := h.2
  rw [Oper.semAt_plain _ _ _ hd] at h ⊢
  cases hr : (execOp a.eval o).run P w with
  | ok x w' => rw [hr] at h; cases x <;> exact h
  | halt x w' => rw [hr] at h; cases x <;> exact h
theorem wpAnyIn_round {n : Nat} {P : Program} {md : Region.Mode} {ops : Array Oper} {l : Nat} {Q : Exit → Act → World → Prop} (hd : ∀ (i : Nat) (o : Oper), ops[i]? = some o → ∀ c, o.op ≠ .defer c) :
    ∀ (fuel : Nat) (listed : Array Bool) (a : Act) (w : World), wpAnyIn Fence.wide n P md ops Q fuel listed a w → wpAnyIn (Fence.wide.inRound l) n P md ops Q fuel listed a w
  | 0, _, _, _, h => h
  | fuel + 1, listed, a, w, h => ⟨h.1, fun i hi => by
    have h2 := h.2 i hi
    unfold wpOpIn at h2 ⊢
    cases ho : ops[i]? with
    | none =>
      simp only [ho] at h2 ⊢
      exact wpAnyIn_round hd fuel _ _ _ h2
    | some o =>
      simp only [ho] at h2 ⊢
      by_cases hw : Region.wanted o (yielded ops a.tmps) = true
      · simp only [hw, if_true] at h2 ⊢
        exact wpIn_op_round (hd i o ho) (Oper.wpIn_mono (fun a w h => wpAnyIn_round hd fuel _ a w h) h2)
      · simp only [hw] at h2 ⊢
        exact ⟨h2.1, wpAnyIn_round hd fuel _ _ _ h2.2⟩⟩
theorem wpIn_quiet_round {n : Nat} {P : Program} {id l : Nat} {Q : Exit → Act → World → Prop} {a : Act} {w : World} {ops : List Oper} (hd : noDefer ops = true) (hm : P.follows .mixedOrders = true) (hB : Region.lexB .any ops.toArray = true)
    (h : wpQuietIn Fence.wide n P ops.toArray (fun w' => ∃ n, w' = w.drewN n) (fun a' => ∀ w', (∃ n, w' = w.drewN n) → Q .normal a' w') ops a) : (Code.region id ops.toArray true).wpIn (Fence.wide.inRound l) n P Q a w := by
  simp only [Region.lexB, Bool.and_eq_true] at hB
  refine wpIn_region_any hm (wpAnyIn_round (fun i o ho => noDefer_at hd ho) _ _ _ _ (wpAnyIn_of_quiet (C := fun w' => ∃ n, w' = w.drewN n) (Q := fun a' => ∀ w', (∃ n, w' = w.drewN n) → Q .normal a' w') rfl (fun _ w' hw' h => h w' hw') _ _ _ _ ⟨1, rfl⟩ ?_))
  have := wpAnyQIn_lex (F := Fence.wide) (n := n) (C := fun w' => ∃ n, w' = w.drewN n) (md := .any) hB.1 ops 0 (Array.replicate ops.length false) a (by simp) (by simpa using hB.2) h
  simpa using this

end Go.Proofs.Ytipgbbhgmoehfaa

/-
  sweep: Levels.
-/
namespace Go.Proofs.Ytipgbbhgmoehfaa
open Go.RowKit Go.Shelf
attribute [local go_sem] Oper.semAt_some
set_option linter.unusedSimpArgs false
set_option linter.unusedSectionVars false

/-! The levels of a sweep. -/
section
variable (me : Nat) (x : Nat → Int) (o : Nat → Nat)
/-- Does a level end with the first j edges. -/
def isEnd (j : Nat) : Bool := decide (j = me) || decide (x (o j) ≠ x (o (j - 1)))
/-- Where levels end, up to there. -/
def ends : Nat → List Nat
  | 0 => []
  | j + 1 => ends j ++ if isEnd me x o (j + 1) then [j + 1] else []
theorem ends_mem {j e : Nat} : e ∈ ends me x o j ↔ (1 ≤ e ∧ e ≤ j ∧ isEnd me x o e = true) := by
  induction j with
  | zero => simp [ends]; omega
  | succ j ih =>
    rw [ends, List.mem_append, ih]
    by_cases h : isEnd me x o (j + 1) = true
    · rw [if_pos h, List.mem_singleton]
      constructor
      · rintro (⟨h1, h2, h3⟩ | rfl)
        · exact ⟨h1, by omega, h3⟩
        · exact ⟨by omega, Nat.le_refl _, h⟩
      · rintro ⟨h1, h2, h3⟩
        by_cases e1 : e = j + 1
        · exact .inr e1
        · exact .inl ⟨h1, by omega, h3⟩
    · rw [if_neg h]
      constructor
      · rintro (⟨h1, h2, h3⟩ | h4)
        · exact ⟨h1, by omega, h3⟩
        · simp at h4
      · rintro ⟨h1, h2, h3⟩
        refine .inl ⟨h1, ?_, h3⟩
        by_cases e1 : e = j + 1
        · subst e1; exact absurd h3 h
        · omega
theorem ends_sorted (j : Nat) : (ends me x o j).Pairwise (· < ·) := by
  induction j with
  | zero => exact List.Pairwise.nil
  | succ j ih =>
    rw [ends]
    split
    · refine List.pairwise_append.2 ⟨ih, List.pairwise_singleton _ _, fun a ha b hb => ?_⟩
      have := (ends_mem me x o).1 ha
      simp at hb
      omega
    · rw [List.append_nil]; exact ih
theorem ends_len (j : Nat) : (ends me x o j).length ≤ j := by
  induction j with
  | zero => exact Nat.le_refl _
  | succ j ih => rw [ends, List.length_append]; split <;> simp <;> omega
end
/-- Four numbers a level. -/
def levV (th a b c : Nat → Int) (l : List Nat) : List Value := l.flatMap fun e => [.int .i64 (th e), .int .i64 (a e), .int .i64 (b e), .int .i64 (c e)]
theorem levV_append (th a b c : Nat → Int) (l m : List Nat) : levV th a b c (l ++ m) = levV th a b c l ++ levV th a b c m := by unfold levV; rw [List.flatMap_append]

/-- Where things lie in the loop of levels. -/
structure LE where
  B : Nat
  T : Nat
  O : Nat
  L : Nat
  S : Nat
  A : Nat
  g : Nat
  n : Nat
  me : Nat
  ce : Nat
  E : Option Addr
def LE.Free (d : LE) (k : Nat) : Prop := k ≠ d.B ∧ k ≠ d.T ∧ k ≠ d.O ∧ k ≠ d.L ∧ k ≠ d.g ∧ ¬ (d.S ≤ k ∧ k < d.S + 3)
structure LE.Boxes (d : LE) (W : World) : Prop where
  b0 : Boxed W d.B 23 (.slice d.E d.me d.ce)
  b1 : Boxed W d.T 74 (.pointer (some ⟨d.A, 0, none⟩))
  b2 : Boxed W d.O 30 (.slice (some ⟨d.g, 0, none⟩) d.me d.me)
  s0 : Boxed W d.S 74 (.pointer (some ⟨d.A, 0, none⟩))
  s1 : Boxed W (d.S + 1) 23 (.slice d.E d.me d.ce)
  s2 : Boxed W (d.S + 2) 30 (.slice (some ⟨d.g, 0, none⟩) d.me d.me)
theorem LE.Boxes.map {d : LE} {W W' : World} (h : d.Boxes W) (k : ∀ i cs U f, (i = d.B ∨ i = d.T ∨ i = d.O ∨ (d.S ≤ i ∧ i < d.S + 3)) → U ≠ 41 → U ≠ 26 → W.heap[i]? = some (.cells cs U f) → W'.heap[i]? = some (.cells cs U f)) : d.Boxes W' :=
  ⟨k _ _ _ _ (.inl rfl) (by decide) (by decide) h.b0, k _ _ _ _ (.inr (.inl rfl)) (by decide) (by decide) h.b1, k _ _ _ _ (.inr (.inr (.inl rfl))) (by decide) (by decide) h.b2, k _ _ _ _ (.inr (.inr (.inr (by omega)))) (by decide) (by decide) h.s0, k _ _ _ _ (.inr (.inr (.inr (by omega)))) (by decide) (by decide) h.s1, k _ _ _ _ (.inr (.inr (.inr (by omega)))) (by decide) (by decide) h.s2⟩
def levW (n me : Nat) (p q o : Nat → Nat) (x : Nat → Int) (r : Nat) : List Value := levV (fun e => x (o (e - 1))) (rA n p q o one) (rB n p q o) (rC n p q o one) (ends me x o r)
/-- What the loop of levels keeps: the tally after j unions, the levels of the first r steps. -/
structure LHold (w : World) (d : LE) (p q o : Nat → Nat) (x : Nat → Int) (j r : Nat) (F : List Nat) (v : Value) (W : World) : Prop where
  tal : OwnTal w W F d.A d.n (labK p q o j) one
  free : ∀ k, k ∈ F → d.Free k
  own : ∀ g, v.ownBlock = some g → g ∉ F
  box : Boxed W d.L 26 v
  lev : W.ownsRow w.heap.size 41 4 v (ends d.me x o r).length (levW d.n d.me p q o x r)
  boxes : d.Boxes W
  row : Row W d.g d.me o
def LColl (w : World) (d : LE) (p q o : Nat → Nat) (x : Nat → Int) (j r : Nat) (W : World) : Prop := ∃ F v, LHold w d p q o x j r F v W
section
variable {w : World} {d : LE} {p q o : Nat → Nat} {x : Nat → Int} {j r : Nat} {W W' : World}
theorem LHold.keep {F : List Nat} {v : Value} (h : LHold w d p q o x j r F v W) (ho : Only [] W W') : LHold w d p q o x j r F v W' := by
  obtain ⟨cs, hc⟩ := h.row.heap
  exact ⟨h.tal.keep ho, h.free, h.own, (ho.block _ (heap_lt h.box) (by simp)).trans h.box, (KeepC.of_only (b := 0) ho).owns h.lev, h.boxes.map fun i cs U f _ _ _ hi => (ho.block _ (heap_lt hi) (by simp)).trans hi, h.row.only ho (by simp)⟩
theorem LColl.keep (h : LColl w d p q o x j r W) (ho : Only [] W W') : LColl w d p q o x j r W' := let ⟨F, v, h⟩ := h; ⟨F, v, h.keep ho⟩
theorem LColl.calm {z : Nat} (h : LColl w d p q o x j r W) (k : KeepC z W W') (hz : w.heap.size ≤ z) : LColl w d p q o x j r W' := by
  obtain ⟨F, v, h⟩ := h
  obtain ⟨cs, hc⟩ := h.row.heap
  exact ⟨F, v, k.tal h.tal hz, h.free, h.own, k.cells _ _ h.box rfl, k.owns h.lev, h.boxes.map fun i cs U f _ _ _ hi => k.cells _ _ hi rfl, h.row.same ((k.cells _ _ hc rfl).trans hc.symm)⟩
theorem LColl.union (h : LColl w d p q o x j r W) {a b : Nat} (ha : a < d.n) (hb : b < d.n) (hl : labK p q o (j + 1) = uni (labK p q o j) (a, b)) :
    Calls Try.prog 58 #[.pointer (some ⟨d.A, 0, none⟩), .int .i64 a, .int .i64 b] W fun e w' => (∃ x y, e = .returned (.tuple #[x, y])) ∧ LColl w d p q o x (j + 1) r w' ∧ KeepsOthers W w' := by
  obtain ⟨F, v, h⟩ := h
  refine (TUnion h.tal.at_ a b ha hb).mono ?_
  rintro e w' ⟨rfl, F', ht, ho, hg⟩
  obtain ⟨cs, hc⟩ := h.row.heap
  have l0 := heap_lt h.boxes.b0
  have l1 := heap_lt h.boxes.b1
  have l2 := heap_lt h.boxes.b2
  have l3 := heap_lt h.boxes.s2
  have l4 := heap_lt h.box
  have l5 := heap_lt hc
  have fr := h.free
  unfold LE.Free at fr
  refine ⟨⟨_, _, rfl⟩, ⟨F', v, by rw [hl]; exact h.tal.step ht ho hg, fun k hk => ?_, fun g hv hk => ?_, ?_, ?_, ?_, ?_⟩, h.tal.at_.others ho⟩
  · rcases hg k hk with hk | hk
    · exact h.free k hk
    · unfold LE.Free; omega
  · obtain ⟨_, ⟨rfl, _⟩ | ⟨g', cap, cur, rfl, _, hh, _⟩⟩ := h.lev
    · simp [Value.ownBlock] at hv
    · simp [Value.ownBlock] at hv
      subst hv
      rcases hg _ hk with hk | hk
      · exact h.own _ (by simp [Value.ownBlock]) hk
      · have := heap_lt hh; omega
  · exact (ho.block _ l4 fun hm => (fr _ hm).2.2.2.1 rfl).trans h.box
  · obtain ⟨hl, h0 | ⟨g, cap, cur, rfl, hg, hh, rest⟩⟩ := h.lev
    · exact ⟨hl, .inl h0⟩
    · exact ⟨hl, .inr ⟨g, cap, cur, rfl, hg, (ho.block _ (heap_lt hh) (h.own _ (by simp [Value.ownBlock]))).trans hh, rest⟩⟩
  · exact h.boxes.map fun i cs U f hi _ _ hc => (ho.block _ (heap_lt hc) fun hm => by have := fr _ hm; omega).trans hc
  · exact h.row.same (ho.block _ l5 fun hm => (fr _ hm).2.2.2.2.1 rfl)
theorem ends_same (h : isEnd d.me x o (r + 1) = false) : ends d.me x o (r + 1) = ends d.me x o r := by rw [ends, h]; simp
theorem ends_more (h : isEnd d.me x o (r + 1) = true) : ends d.me x o (r + 1) = ends d.me x o r ++ [r + 1] := by rw [ends, h]; simp
theorem LColl.same (h : LColl w d p q o x j r W) (he : isEnd d.me x o (r + 1) = false) : LColl w d p q o x j (r + 1) W := by
  obtain ⟨F, v, h⟩ := h
  exact ⟨F, v, h.tal, h.free, h.own, h.box, by unfold levW; rw [ends_same he]; exact h.lev, h.boxes, h.row⟩
/-- One level more. -/
theorem LColl.put {W0 : World} (h : LColl w d p q o x j r W0) (hL : w.heap.size ≤ d.L) (he : isEnd d.me x o (r + 1) = true) :
    ∃ v, ∀ W, Only [] W0 W → w.heap.size ≤ W.heap.size ∧ W.cell? ⟨d.L, 0, none⟩ = some v ∧ W.cell? ⟨d.T, 0, none⟩ = some (.pointer (some ⟨d.A, 0, none⟩)) ∧ W.ownsRow w.heap.size 41 4 v (ends d.me x o r).length (levW d.n d.me p q o x r) ∧
      ∀ w3 v' tmp, w3.ownsRow w.heap.size 41 4 v' ((ends d.me x o r).length + 1) (levW d.n d.me p q o x r ++ [.int .i64 (x (o r)), .int .i64 (rA d.n p q o one (r + 1)), .int .i64 (rB d.n p q o (r + 1)), .int .i64 (rC d.n p q o one (r + 1))]) → (W.alloc tmp).grownBy w3 v.ownBlock →
      (v'.ownBlock = v.ownBlock ∨ v'.ownBlock = some (W.alloc tmp).heap.size) → w3.cell? ⟨d.L, 0, none⟩ = some v ∧ w3.frozen? ⟨d.L, 0, none⟩ = false ∧ LColl w d p q o x j (r + 1) (w3.setCell ⟨d.L, 0, none⟩ v') ∧ KeepsOthers W (w3.setCell ⟨d.L, 0, none⟩ v') := by
  obtain ⟨F, v, h0⟩ := h
  refine ⟨v, fun W hO => ?_⟩
  have h := h0.keep hO
  clear h0 hO W0
  have hLb : w.heap.size ≤ W.heap.size := h.tal.only.size
  refine ⟨hLb, h.box.cell, h.boxes.b1.cell, h.lev, fun w3 v' tmp ho hg hat => ?_⟩
  obtain ⟨k1, k2, k3, k4, k5⟩ := h.box.appended (by decide) h.lev hLb hL ho hg
  have hrow : ∀ g, v.ownBlock = some g → ∃ cs, W.heap[g]? = some (.cells cs 41 (0, 0)) := fun g e => by
    rcases h.lev.2 with ⟨rfl, _⟩ | ⟨g', cap, cur, rfl, _, hh, _⟩
    · simp [Value.ownBlock] at e
    · simp [Value.ownBlock] at e; subst e; exact ⟨_, hh⟩
  have keep : ∀ i, i < W.heap.size → some i ≠ v.ownBlock → i ≠ d.L → (w3.setCell ⟨d.L, 0, none⟩ v').heap[i]? = W.heap[i]? := fun i hi hv hne => by
    rw [heap_setCell_other _ _ _ _ (by exact hne), hg.block i (by rw [World.size_alloc]; omega) hv, heap_alloc_old _ _ hi]
  have tp : ∀ i cs T f, T ≠ 41 → W.heap[i]? = some (.cells cs T f) → some i ≠ v.ownBlock := fun i cs T f hT hi e => by
    obtain ⟨cs', hc⟩ := hrow i e.symm
    rw [hi] at hc
    cases hc
    exact hT rfl
  have tL : ∀ i cs T f, T ≠ 26 → W.heap[i]? = some (.cells cs T f) → i ≠ d.L := fun i cs T f hT hi e => by
    have hb := h.box
    unfold Boxed at hb
    rw [← e, hi] at hb
    cases hb
    exact hT rfl
  have ht := h.tal
  obtain ⟨rs, hrs⟩ := h.row.heap
  refine ⟨k1.cell, k1.frozen, ⟨F, v', ⟨ht.at_.same fun i hi => ?_, ht.new, ⟨k5.os.trans ht.only.os, k5.tape.trans ht.only.tape, k5.output.trans ht.only.output, Nat.le_trans ht.only.size k5.size, fun i hi hn => (k5.block i hi).trans (ht.only.block i hi hn)⟩⟩, h.free, fun g hv hk => ?_, k2, ?_, ?_, ?_⟩, k4⟩
  · have fr := h.free i hi
    exact keep i (ht.at_.lt i hi) (fun e => h.own i e.symm hi) fr.2.2.2.1
  · rcases hat with e | e
    · exact h.own g (by rw [← e]; exact hv) hk
    · rw [e, World.size_alloc] at hv
      have := ht.at_.lt g hk
      cases hv
      omega
  · unfold levW
    rw [ends_more he, levV_append, List.length_append]
    exact k3
  · exact h.boxes.map fun i cs U f _ hU1 hU2 hi => (keep i (heap_lt hi) (tp i cs U f hU1 hi) (tL i cs U f hU2 hi)).trans hi
  · exact h.row.same (keep _ (heap_lt hrs) (tp _ _ _ _ (by decide) hrs) (tL _ _ _ _ (by decide) hrs))
end

end Go.Proofs.Ytipgbbhgmoehfaa

/-
  sweep: Levels, the walk.
-/
namespace Go.Proofs.Ytipgbbhgmoehfaa
open Go.RowKit Go.Shelf
attribute [local go_sem] Oper.semAt_some
set_option linter.unusedSimpArgs false
set_option linter.unusedSectionVars false

theorem infoLevel : (Try.prog.info? 41).map (fun i => (i.zero, i.size, i.bytes)) = some (some (.agg #[.int .i64 0, .int .i64 0, .int .i64 0, .int .i64 0]), 4, 32) := by kernel_rfl
theorem cell_four_new (w : World) (x y z u : Value) (t : TypeId) : ∀ j r, [x, y, z, u][j]? = some r → (w.alloc (.cells #[x, y, z, u] t)).cell? ((⟨w.heap.size, 0, none⟩ : Addr).add j) = some r := by
  intro j r h
  have hh := heap_alloc_new w (.cells #[x, y, z, u] t)
  have e : ((⟨w.heap.size, 0, none⟩ : Addr).add j) = ⟨w.heap.size, j, none⟩ := by unfold Addr.add; split <;> simp_all
  rw [e]
  exact cell_of_heap hh (by simpa using h)
theorem LHold.fact {w : World} {d : LE} {p q o : Nat → Nat} {x : Nat → Int} {j r : Nat} {F : List Nat} {v : Value} {W : World} {u v' : Nat → Int} {x' : Nat → Int} (h : LHold w d p q o x j r F v W) (hE : EdgesIn w d.E d.me u v' x') (hf : ∀ j, j < d.me → o j < d.me) (hme : d.me ≤ 65536) :
    StepFact d.A d.S (d.S + 1) (d.S + 2) d.E (some ⟨d.g, 0, none⟩) d.me d.ce d.me d.me u v' x' (fun j => o j) W :=
  ⟨h.boxes.s0.cell, h.boxes.s1.cell, h.boxes.s2.cell, hE.only h.tal.only, h.row.ints (fun j hj => by have := hf j hj; omega) (by unfold maxLen; omega)⟩
/-- What Levels returns. -/
def LevelsPost (n : Int) (me : Nat) (u v x : Nat → Int) (w : World) (k : Int) (e : Ending) (w' : World) : Prop :=
  (k ≠ 0 ∧ e = .returned (.tuple #[.slice none 0 0, .int .i64 k]) ∧ Only [] w w') ∨
    (k = 0 ∧ ∃ o vo, ByWeight me x o ∧ e = .returned (.tuple #[vo, .int .i64 0]) ∧ w'.ownsRow w.heap.size 41 4 vo (ends me x o me).length (levW n.toNat me (fun j => (u j).toNat) (fun j => (v j).toNat) o x me) ∧ Only [] w w')

def levObjs (_Z A : Nat) (E : Option Addr) (me ce g : Nat) : List Obj :=
  [.cells #[.slice (some ⟨g, 0, none⟩) me me] 30, .cells #[.slice none 0 0] 26, .cells #[.pointer (some ⟨A, 0, none⟩)] 74, .cells #[.slice E me ce] 23, .cells #[.slice (some ⟨g, 0, none⟩) me me] 30]
theorem lcoll_start {w w3 : World} {F : List Nat} {B T A g N me ce : Nat} {E : Option Addr} {p q o : Nat → Nat} {x : Nat → Int} (hT : OwnTal w w3 F A N id one) (hF : ∀ k, k ∈ F → k < T ∧ k ≠ B) (hg : T + 1 ≤ g) (hR : Row w3 g me o)
    (hB : Boxed w3 B 23 (.slice E me ce)) (hbT : Boxed w3 T 74 (.pointer (some ⟨A, 0, none⟩))) :
    LColl w ⟨B, T, w3.heap.size, w3.heap.size + 1, w3.heap.size + 2, A, g, N, me, ce, E⟩ p q o x 0 0 (allocs w3 (levObjs w3.heap.size A E me ce g)) := by
  have hO := allocs_only (levObjs w3.heap.size A E me ce g) w3
  have at_ : ∀ i ob, (levObjs w3.heap.size A E me ce g)[i]? = some ob → (allocs w3 (levObjs w3.heap.size A E me ce g)).heap[w3.heap.size + i]? = some ob := fun i ob h => allocs_at h
  have hgl := hR.lt
  have l1 := heap_lt hbT
  refine ⟨F, .slice none 0 0, hT.keep hO, fun k hk => ?_, fun g hv => by simp [Value.ownBlock] at hv, at_ 1 _ rfl, ⟨rfl, .inl ⟨rfl, rfl⟩⟩, ⟨(hO.block _ (heap_lt hB) (by simp)).trans hB, (hO.block _ l1 (by simp)).trans hbT, at_ 0 _ rfl, at_ 2 _ rfl, at_ 3 _ rfl, at_ 4 _ rfl⟩, hR.only hO (by simp)⟩
  have h1 := hF k hk
  unfold LE.Free
  refine ⟨h1.2, ?_, ?_, ?_, ?_, ?_⟩ <;> dsimp only <;> omega
set_option maxRecDepth 100000 in
set_option maxHeartbeats 8000000 in
theorem Levels_any (n : Int) (E : Option Addr) (me ce : Nat) (u v x : Nat → Int) (w : World) (hE : EdgesIn w E me u v x) (k : Int) (hk : GCode n me u v k) :
    Calls Try.prog 7 #[.int .i64 n, .slice E me ce] w (LevelsPost n me u v x w k) := by
  refine (callsIn_wide (n := 8)).1 ?_
  obtain ⟨i0, hi, hz0, hz1, hz2⟩ := info_parts infoLevel
  have HE := Lib.hid hE
  have HK := Lib.hid hk
  obtain ⟨w0, hw0⟩ : ∃ w0, w.alloc (.cells #[.slice E me ce] 23) = w0 := ⟨_, rfl⟩
  have hb0 : Boxed w0 w.heap.size 23 (.slice E me ce) := hw0 ▸ heap_alloc_new w _
  have hO0 : Only [] w w0 := hw0 ▸ (Only.refl [] w).alloc _
  obtain ⟨B, hB⟩ : ∃ B, w.heap.size = B := ⟨_, rfl⟩
  have CG := Lib.hid (GNew_any n E me ce u v x w0 (hE.only hO0) k hk)
  rw [hB] at hb0
  have HB := Lib.hid hb0
  have HO0 := Lib.hid hO0
  have HS := Lib.hid hB
  have cB := hb0.cell
  clear hE hk hb0 hO0
  refine callsIn_of_wp_marks Try.func7 rfl trivial ?_ rfl
  simp only [Try.ntmps7, List.size_toArray, List.length_cons, List.length_nil, Nat.reduceAdd, Nat.reduceSub, Array.replicate_succ, Array.replicate_zero, List.push_toArray, List.append_toArray, List.nil_append, List.cons_append]
  gi_wp2_with fail
  refine ⟨trivial, (callsIn_wide.2 CG.out).mono ?_⟩
  clear hw0 hB cB
  rintro e w1 ⟨hO, ⟨h0, rfl⟩ | ⟨rfl, G, S, L, A', c', fs, rfl, _⟩⟩
  · have HO := Lib.hid (HO0.out.trans hO)
    clear hO CG
    gi_wp2_with fail
    exact ⟨_, results_tmp2 rfl _ _ _, .inl ⟨h0, rfl, HO.out⟩⟩
  obtain ⟨⟨hn0, hn1, hme⟩, _⟩ := gcode_ok HK.out
  obtain ⟨N, rfl⟩ : ∃ N : Nat, n = N := ⟨n.toNat, by omega⟩
  have CE := Lib.hid (TEven N (by omega) w1)
  have HO1 := Lib.hid (HO0.out.trans hO)
  have HB1 := Lib.hid (show Boxed w1 B 23 (.slice E me ce) from (hO.block _ (heap_lt HB.out) (by simp)).trans HB.out)
  have hN := Lib.hid hn1
  have hM := Lib.hid hme
  clear hO CG hn0 hn1 hme
  gi_wp2_with fail
  refine ⟨trivial, (callsIn_wide.2 CE.out).mono ?_⟩
  rintro e w2 ⟨F, A, rfl, ht, hF, hO⟩
  obtain ⟨wT, hwT⟩ : ∃ wT, w2.alloc (.cells #[.pointer (some ⟨A, 0, none⟩)] 74) = wT := ⟨_, rfl⟩
  obtain ⟨T, hT⟩ : ∃ T, w2.heap.size = T := ⟨_, rfl⟩
  have hOT : Only [] w2 wT := hwT ▸ (Only.refl [] w2).alloc _
  have hbT : Boxed wT w2.heap.size 74 (.pointer (some ⟨A, 0, none⟩)) := hwT ▸ heap_alloc_new w2 _
  have hbB : Boxed wT B 23 (.slice E me ce) := ((hO.trans hOT).block _ (heap_lt HB1.out) (by simp)).trans HB1.out
  have hsT : wT.heap.size = w2.heap.size + 1 := by rw [← hwT, World.size_alloc]
  rw [hT] at hbT hsT
  have HTal := Lib.hid (show OwnTal w wT F A N id one from (OwnTal.made HO1.out ht hF hO).keep hOT)
  have HFT := Lib.hid (show ∀ k, k ∈ F → k < T ∧ k ≠ B from fun k hk => ⟨hT ▸ ht.lt k hk, fun e => by have := hF k hk; have := heap_lt HB1.out; omega⟩)
  have HBT := Lib.hid hbT
  have HBB := Lib.hid hbB
  have HST := Lib.hid hsT
  have CO := Lib.hid (Order_any E me ce u v x wT (HE.out.only (HTal.out.only)) (by have := hM.out; omega))
  have cT := hbT.cell
  have cB := hbB.cell
  clear ht hF hO hOT hbT hbB CE hsT
  gi_wp2_with fail
  clear hwT hT
  refine ⟨trivial, (callsIn_wide.2 CO.out).mono ?_⟩
  rintro e w3 ⟨g, o, rfl, hR, hW, hg, hO⟩
  have hb3 : Boxed w3 B 23 (.slice E me ce) := (hO.block _ (heap_lt HBB.out) (by simp)).trans HBB.out
  have ht3 : Boxed w3 T 74 (.pointer (some ⟨A, 0, none⟩)) := (hO.block _ (heap_lt HBT.out) (by simp)).trans HBT.out
  have HC := Lib.hid (lcoll_start (p := fun j => (u j).toNat) (q := fun j => (v j).toNat) (x := x) (HTal.out.keep hO) HFT.out (by have := HST.out; omega) hR hb3 ht3)
  have HO3 := Lib.hid (HTal.out.only.trans hO)
  have HW := Lib.hid hW
  obtain ⟨Z, hZ⟩ : ∃ Z, w3.heap.size = Z := ⟨_, rfl⟩
  obtain ⟨wL, hwL⟩ : ∃ wL, (w3.alloc (.cells #[.slice (some ⟨g, 0, none⟩) me me] 30)).alloc (.cells #[.slice none 0 0] 26) = wL := ⟨_, rfl⟩
  have hOL : Only [] w3 wL := hwL ▸ ((Only.refl [] w3).alloc _).alloc _
  have cB := (show Boxed wL B 23 (.slice E me ce) from (hOL.block _ (heap_lt hb3) (by simp)).trans hb3).cell
  have cT := (show Boxed wL T 74 (.pointer (some ⟨A, 0, none⟩)) from (hOL.block _ (heap_lt ht3) (by simp)).trans ht3).cell
  have cO : wL.cell? ⟨Z, 0, none⟩ = some (.slice (some ⟨g, 0, none⟩) me me) := by
    rw [← hwL, ← hZ]
    exact Lib.cell?_alloc_some _ (cell_of_heap (heap_alloc_new w3 _) rfl)
  have hsL : wL.heap.size = Z + 1 + 1 := by rw [← hwL, World.size_alloc, World.size_alloc, hZ]
  have HAL := Lib.hid hwL
  have HOL := Lib.hid hOL
  clear hb3 ht3 hR hO CO HTal HBB HBT hg hOL
  rw [hZ] at HC
  have HSL := Lib.hid hsL
  have HZ := Lib.hid hZ
  gi_wp2_with fail
  clear hsL hwL hZ
  refine ⟨trivial, (callsIn_wide.2 (steps_any _ _ _ _ _ _ _ _)).mono ?_⟩
  rintro e W ⟨rfl, hW0⟩
  rw [HSL.out]
  have hW1 : allocs w3 (levObjs Z A E me ce g) = W := by rw [← hW0, ← HAL.out]; rfl
  rw [hW1] at HC
  have HOW := Lib.hid (show Only [] w3 W from hW1 ▸ allocs_only _ w3)
  clear hW1 hW0
  gi_wp2
  have hmix : Try.prog.follows .mixedOrders = true := by kernel_rfl
  have hl3 : w.heap.size ≤ W.heap.size := Nat.le_trans HO3.out.size HOW.out.size
  have hlZ : w.heap.size ≤ Z := by have := HO3.out.size; have := HZ.out; omega
  have hol : ∀ j, j < me → o j < me := fun j hj => HW.out.lt hj
  refine range_steps (by omega) (gf := 57) (lb := #[.pointer (some ⟨Z + 1 + 1 + 1 + 1, 0, none⟩), .pointer (some ⟨Z + 1 + 1, 0, none⟩), .pointer (some ⟨Z + 1 + 1 + 1, 0, none⟩)]) (m := me) (Fact := fun _ W => StepFact A (Z + 2) (Z + 2 + 1) (Z + 2 + 2) E (some ⟨g, 0, none⟩) me ce me me u v x (fun j => o j) W) (U := fun j => #[.pointer (some ⟨A, 0, none⟩), .int .i64 (((u (o j)).toNat : Nat)), .int .i64 (((v (o j)).toNat : Nat))]) rfl (enters_of Try.func57 (by kernel_rfl) rfl) ?hseq rfl
    (fun j W => LColl w ⟨B, T, Z, Z + 1, Z + 2, A, g, N, me, ce, E⟩ (fun j => (u j).toNat) (fun j => (v j).toNat) o x j (j - 1) W) (fun j W => LColl w ⟨B, T, Z, Z + 1, Z + 2, A, g, N, me, ce, E⟩ (fun j => (u j).toNat) (fun j => (v j).toNat) o x j j W) ?ca ?cb HC.out ?fact ?fr ?assign ?body ?hU ?done
  case hseq => exact steps1_in 7 A (Z + 2) (Z + 2 + 1) (Z + 2 + 2) E (some ⟨g, 0, none⟩) me ce me me u v x (fun j => o j) (fun j => (u j).toNat) (fun j => (v j).toNat) o (by have := hM.out; omega) (fun j hj => ⟨rfl, hol j hj⟩) (fun j hj => by
    have := (gcode_ok HK.out).2 j hj
    unfold GoodE InE at this
    omega)
  case ca => exact fun j W W' h k => h.calm k hl3
  case cb => exact fun j W W' h k => h.calm k hl3
  case fact =>
    rintro j W ⟨F', v', h⟩
    exact h.fact HE.out hol (by have := hM.out; dsimp only; omega)
  case assign =>
    intro l j W K hK
    gi_wp2
    exact hK
  case hU =>
    intro j W hj h
    have hg := (gcode_ok HK.out).2 _ (hol j hj)
    unfold GoodE InE at hg
    exact h.union (by dsimp only; omega) (by dsimp only; omega) (labK_succ _ _ o j)
  case body =>
    intro l j W hc hj
    have hM2 := hM.out
    cases j with
    | zero =>
      gi_wp2_with fail
      exact ⟨KeepsOthers.refl W, hc⟩
    | succ j =>
      replace hc : LColl w ⟨B, T, Z, Z + 1, Z + 2, A, g, N, me, ce, E⟩ (fun j => (u j).toNat) (fun j => (v j).toNat) o x (j + 1) j W := hc
      have hlt : o j < me := hol j (by omega)
      have hjm : j < me := by omega
      obtain ⟨F', vv, hh⟩ := id hc
      obtain ⟨b, off, rfl, _, _, _, cx⟩ := (HE.out.only hh.tal.only).cell hlt
      have cB := hh.boxes.b0.cell
      have cT := hh.boxes.b1.cell
      have cO := hh.boxes.b2.cell
      have cL := hh.box.cell
      have cj : W.cell? ⟨g, j, none⟩ = some (.int .i64 (o j)) := hh.row.cell hjm
      have cxs : j + 1 < me → W.cell? ⟨b, off + o (j + 1) * 3 + 2, none⟩ = some (.int .i64 (x (o (j + 1)))) ∧ W.cell? ⟨g, j + 1, none⟩ = some (.int .i64 (o (j + 1))) ∧ o (j + 1) < me := fun h => by
        obtain ⟨b2, off2, e, _, _, _, cx⟩ := (HE.out.only hh.tal.only).cell (hol _ h)
        cases e
        exact ⟨cx, hh.row.cell h, hol _ h⟩
      have HCX := Lib.hid cxs
      have HC2 := Lib.hid hc
      clear hh hc cxs HCX
      dsimp only at cB cT cO cL
      gi_wp2_with fail
      refine wpIn_quiet_round (by kernel_rfl) hmix (by kernel_rfl) ?_
      repeat (gi_big_quiet_step (fail))
      refine wpQuietIn_nil ?_
      intro _ hw'
      obtain ⟨nq, hw''⟩ := hw'
      subst hw''
      obtain ⟨W1, hW1⟩ : ∃ W1, W.drewN nq = W1 := ⟨_, rfl⟩
      have hO1 : Only [] W W1 := hW1 ▸ (Only.refl [] W).drewN nq
      rw [hW1]
      clear hW1
      have HC3 := Lib.hid (And.intro hO1 (HC2.out.keep hO1))
      obtain ⟨F'', vv, hh⟩ := HC3.out.2
      have cB := hh.boxes.b0.cell
      have cT := hh.boxes.b1.cell
      have cO := hh.boxes.b2.cell
      have cL := hh.box.cell
      dsimp only at cB cT cO cL
      have cxs : j + 1 < me → W1.cell? ⟨b, off + o (j + 1) * 3 + 2, none⟩ = some (.int .i64 (x (o (j + 1)))) ∧ W1.cell? ⟨g, j + 1, none⟩ = some (.int .i64 (o (j + 1))) ∧ o (j + 1) < me := fun h => by
        obtain ⟨b2, off2, e, _, _, _, cx⟩ := (HE.out.only hh.tal.only).cell (hol _ h)
        cases e
        exact ⟨cx, hh.row.cell h, hol _ h⟩
      have HCX := Lib.hid cxs
      clear cxs hh hO1 HC2
      have HBT := Lib.hid (show Boxed W1 T 74 (.pointer (some ⟨A, 0, none⟩)) from by obtain ⟨_, _, hh⟩ := HC3.out.2; exact hh.boxes.b1)
      have HP := Lib.hid (show isEnd me x o (j + 1) = true → ∀ W3, Only [] W1 W3 → Hid (∀ W2, Only [] W3 W2 → Calls Try.prog 27 #[.pointer (some ⟨A, 0, none⟩)] W2 fun e w' => e = .returned (.agg #[.int .i64 (rA N (fun j => (u j).toNat) (fun j => (v j).toNat) o one (j + 1)), .int .i64 (rB N (fun j => (u j).toNat) (fun j => (v j).toNat) o (j + 1)), .int .i64 (rC N (fun j => (u j).toNat) (fun j => (v j).toNat) o one (j + 1))]) ∧ Only [] W2 w') ∧
          ∃ vl, Hid (∀ W2, Only [] W3 W2 → W2.cell? ⟨Z + 1, 0, none⟩ = some vl ∧ (W2.alloc (.cells #[.int .i64 (x (o j)), .int .i64 (rA N (fun j => (u j).toNat) (fun j => (v j).toNat) o one (j + 1)), .int .i64 (rB N (fun j => (u j).toNat) (fun j => (v j).toNat) o (j + 1)), .int .i64 (rC N (fun j => (u j).toNat) (fun j => (v j).toNat) o one (j + 1))] 41)).cell? ⟨Z + 1, 0, none⟩ = some vl ∧
            ∃ g' cap' w3, (Builtin.append_ #[26, 26] 26 #[vl, .slice (some ⟨W2.heap.size, 0, none⟩) 1 1]).run Try.prog (W2.alloc (.cells #[.int .i64 (x (o j)), .int .i64 (rA N (fun j => (u j).toNat) (fun j => (v j).toNat) o one (j + 1)), .int .i64 (rB N (fun j => (u j).toNat) (fun j => (v j).toNat) o (j + 1)), .int .i64 (rC N (fun j => (u j).toNat) (fun j => (v j).toNat) o one (j + 1))] 41)) = .ok (.slice (some ⟨g', 0, none⟩) ((ends me x o j).length + 1) cap') w3 ∧ w3.cell? ⟨Z + 1, 0, none⟩ = some vl ∧ w3.frozen? ⟨Z + 1, 0, none⟩ = false ∧
            Hid (KeepsOthers W (w3.setCell ⟨Z + 1, 0, none⟩ (.slice (some ⟨g', 0, none⟩) ((ends me x o j).length + 1) cap')) ∧ LColl w ⟨B, T, Z, Z + 1, Z + 2, A, g, N, me, ce, some ⟨b, off, none⟩⟩ (fun j => (u j).toNat) (fun j => (v j).toNat) o x (j + 1) (j + 1) (w3.setCell ⟨Z + 1, 0, none⟩ (.slice (some ⟨g', 0, none⟩) ((ends me x o j).length + 1) cap')))) from fun he W3 hO3 => by
        refine ⟨Lib.hid fun W2 hO => ?_, ?_⟩
        · obtain ⟨F', _, h1⟩ := HC3.out.2
          exact SPlain (h1.tal.at_.keep (hO3.trans hO))
        obtain ⟨vl, hput⟩ := (HC3.out.2.keep hO3).put (by dsimp only; omega) he
        refine ⟨vl, Lib.hid fun W2 hO => ?_⟩
        obtain ⟨g1, c3, c0, hrow2, hp2⟩ := hput W2 hO
        have hlen := ends_len me x o j
        obtain ⟨v', w3, hrun, hown', hgrow, _, hat⟩ := run_append_own_at (P := Try.prog) (w := W2.alloc (.cells #[.int .i64 (x (o j)), .int .i64 (rA N (fun j => (u j).toNat) (fun j => (v j).toNat) o one (j + 1)), .int .i64 (rB N (fun j => (u j).toNat) (fun j => (v j).toNat) o (j + 1)), .int .i64 (rC N (fun j => (u j).toNat) (fun j => (v j).toNat) o one (j + 1))] 41)) w.heap.size 26 26 41 i0 (.agg #[.int .i64 0, .int .i64 0, .int .i64 0, .int .i64 0]) 4 32 Try.underlying26 hi hz0 hz1 hz2 rfl (by decide) vl (ends me x o j).length (levW N me (fun j => (u j).toNat) (fun j => (v j).toNat) o x j) (hrow2.alloc _) ⟨W2.heap.size, 0, none⟩ 1 1 [.int .i64 (x (o j)), .int .i64 (rA N (fun j => (u j).toNat) (fun j => (v j).toNat) o one (j + 1)), .int .i64 (rB N (fun j => (u j).toNat) (fun j => (v j).toNat) o (j + 1)), .int .i64 (rC N (fun j => (u j).toNat) (fun j => (v j).toNat) o one (j + 1))] rfl (cell_four_new _ _ _ _ _ _) (by simp [Value.oneCell']) (by unfold maxLen; omega) (by omega) (by rw [World.size_alloc]; omega)
        obtain ⟨d1, d2, d3, d4⟩ := hp2 w3 v' _ hown' hgrow hat
        obtain ⟨g', cap', rfl⟩ := ownsRow_succ hown'
        exact ⟨c3, Lib.cell?_alloc_some _ c3, g', cap', w3, hrun, d1, d2, Lib.hid ⟨KeepsOthers.trans (KeepsOthers.of_only ((HC3.out.1.trans hO3).trans hO)) d4, d3⟩⟩)
      by_cases hl : j + 1 = me
      · have he : isEnd me x o (j + 1) = true := by unfold isEnd; simp [hl]
        have hl1 : ((j : Int) + 1 == (me : Int)) = true := by simp; omega
        have hl2 : (j : Int) + 1 = (me : Int) := by omega
        gi_wp2_with fail
        refine wpIn_quiet_round (by kernel_rfl) hmix (by kernel_rfl) ?_
        repeat (gi_big_quiet_step (fail))
        refine wpQuietIn_nil ?_
        intro _ hw'
        obtain ⟨nq, hw''⟩ := hw'
        subst hw''
        gi_wp2_with fail
        obtain ⟨W3, hW3⟩ : ∃ W3, W1.drewN nq = W3 := ⟨_, rfl⟩
        have hO3 : Only [] W1 W3 := hW3 ▸ (Only.refl [] W1).drewN nq
        rw [hW3]
        obtain ⟨HG, v, HR⟩ := HP.out he W3 hO3
        obtain ⟨c3, _⟩ := HR.out W3 (Only.refl [] W3)
        have cT := (KeepC.of_only (b := 0) hO3).cells _ _ HBT.out rfl
        replace cT := cell_of_heap (i := 0) cT rfl
        clear hW3 cL hO3 HP hl hl1 hl2
        gi_wp2_with fail
        refine wpIn_region_any hmix ?_
        change wpAnyIn _ _ _ _ _ _ _ _ _ (World.drew _)
        refine wpAnyIn_ready (rs := [0, 1, 2]) (by kernel_rfl) (by simp) ?_
        refine AllReadyIn.cons rfl (fun K hK => ?_) ?_
        · go_simp
          refine hK _ _ ?_
          clear hK K
          refine wpAnyIn_ready (rs := [1, 2]) (by kernel_rfl) (by simp) ?_
          refine AllReadyIn.cons rfl (fun K hK => ?_) ?_
          · go_simp
            refine hK _ _ ?_
            clear hK K
            refine wpAnyIn_ready (rs := [2]) (by kernel_rfl) (by simp) ?_
            refine AllReadyIn.cons rfl (fun K hK => ?_) AllReadyIn.nil
            go_simp
            refine hK _ _ ?_
            clear hK K
            refine wpAnyIn_ready (rs := [3]) (by kernel_rfl) (by simp) ?_
            refine AllReadyIn.cons rfl (fun K hK => ?_) AllReadyIn.nil
            go_simp
            refine ⟨trivial, (CallsIn.inRound l (callsIn_wide.2 (HG.out _ ((Only.refl [] W3).drewN 1)))).mono ?_⟩
            rintro e W2 ⟨rfl, hO⟩
            obtain ⟨c3, c4, g2, cap2, w3, hrun, d1, d2, HX⟩ := HR.out W2 (((Only.refl [] W3).drewN 1).trans hO)
            clear hO
            refine hK _ _ ?_
            clear hK K
            refine wpAnyIn_ready (rs := [4]) (by kernel_rfl) (by simp) ?_
            refine AllReadyIn.cons rfl (fun K hK => ?_) AllReadyIn.nil
            go_simp
            refine hK _ _ ?_
            clear hK K
            refine wpAnyIn_ready (rs := [5]) (by kernel_rfl) (by simp) ?_
            refine AllReadyIn.cons rfl (fun K hK => ?_) AllReadyIn.nil
            go_simp
            refine hK _ _ ?_
            clear hK K
            refine wpAnyIn_ready (rs := [6]) (by kernel_rfl) (by simp) ?_
            refine AllReadyIn.cons rfl (fun K hK => ?_) AllReadyIn.nil
            refine stepIn_append rfl (.tmp 65) (.tmp 70) 26 rfl hrun ?_
            refine hK _ _ ?_
            clear hK K
            simp only [Act.put, List.setIfInBounds_toArray, List.set_cons_zero, List.set_cons_succ]
            refine wpAnyIn_ready (rs := [7]) (by kernel_rfl) (by simp) ?_
            refine AllReadyIn.cons rfl (fun K hK => ?_) AllReadyIn.nil
            go_simp
            refine hK _ _ ?_
            clear hK K
            refine wpAnyIn_done (by kernel_rfl) ?_ _
            exact HX.out
          refine AllReadyIn.cons rfl (fun K hK => ?_) AllReadyIn.nil
          go_simp
          refine hK _ _ ?_
          clear hK K
          refine wpAnyIn_ready (rs := [1, 3]) (by kernel_rfl) (by simp) ?_
          refine AllReadyIn.cons rfl (fun K hK => ?_) ?_
          · go_simp
            refine hK _ _ ?_
            clear hK K
            refine wpAnyIn_ready (rs := [3]) (by kernel_rfl) (by simp) ?_
            refine AllReadyIn.cons rfl (fun K hK => ?_) AllReadyIn.nil
            go_simp
            refine ⟨trivial, (CallsIn.inRound l (callsIn_wide.2 (HG.out _ ((Only.refl [] W3).drewN 1)))).mono ?_⟩
            rintro e W2 ⟨rfl, hO⟩
            obtain ⟨c3, c4, g2, cap2, w3, hrun, d1, d2, HX⟩ := HR.out W2 (((Only.refl [] W3).drewN 1).trans hO)
            clear hO
            refine hK _ _ ?_
            clear hK K
            refine wpAnyIn_ready (rs := [4]) (by kernel_rfl) (by simp) ?_
            refine AllReadyIn.cons rfl (fun K hK => ?_) AllReadyIn.nil
            go_simp
            refine hK _ _ ?_
            clear hK K
            refine wpAnyIn_ready (rs := [5]) (by kernel_rfl) (by simp) ?_
            refine AllReadyIn.cons rfl (fun K hK => ?_) AllReadyIn.nil
            go_simp
            refine hK _ _ ?_
            clear hK K
            refine wpAnyIn_ready (rs := [6]) (by kernel_rfl) (by simp) ?_
            refine AllReadyIn.cons rfl (fun K hK => ?_) AllReadyIn.nil
            refine stepIn_append rfl (.tmp 65) (.tmp 70) 26 rfl hrun ?_
            refine hK _ _ ?_
            clear hK K
            simp only [Act.put, List.setIfInBounds_toArray, List.set_cons_zero, List.set_cons_succ]
            refine wpAnyIn_ready (rs := [7]) (by kernel_rfl) (by simp) ?_
            refine AllReadyIn.cons rfl (fun K hK => ?_) AllReadyIn.nil
            go_simp
            refine hK _ _ ?_
            clear hK K
            refine wpAnyIn_done (by kernel_rfl) ?_ _
            exact HX.out
          refine AllReadyIn.cons rfl (fun K hK => ?_) AllReadyIn.nil
          go_simp
          refine ⟨trivial, (CallsIn.inRound l (callsIn_wide.2 (HG.out _ ((Only.refl [] W3).drewN 1)))).mono ?_⟩
          rintro e W2 ⟨rfl, hO⟩
          obtain ⟨c3, c4, g2, cap2, w3, hrun, d1, d2, HX⟩ := HR.out W2 (((Only.refl [] W3).drewN 1).trans hO)
          clear hO
          refine hK _ _ ?_
          clear hK K
          refine wpAnyIn_ready (rs := [1]) (by kernel_rfl) (by simp) ?_
          refine AllReadyIn.cons rfl (fun K hK => ?_) AllReadyIn.nil
          go_simp
          refine hK _ _ ?_
          clear hK K
          refine wpAnyIn_ready (rs := [4]) (by kernel_rfl) (by simp) ?_
          refine AllReadyIn.cons rfl (fun K hK => ?_) AllReadyIn.nil
          go_simp
          refine hK _ _ ?_
          clear hK K
          refine wpAnyIn_ready (rs := [5]) (by kernel_rfl) (by simp) ?_
          refine AllReadyIn.cons rfl (fun K hK => ?_) AllReadyIn.nil
          go_simp
          refine hK _ _ ?_
          clear hK K
          refine wpAnyIn_ready (rs := [6]) (by kernel_rfl) (by simp) ?_
          refine AllReadyIn.cons rfl (fun K hK => ?_) AllReadyIn.nil
          refine stepIn_append rfl (.tmp 65) (.tmp 70) 26 rfl hrun ?_
          refine hK _ _ ?_
          clear hK K
          simp only [Act.put, List.setIfInBounds_toArray, List.set_cons_zero, List.set_cons_succ]
          refine wpAnyIn_ready (rs := [7]) (by kernel_rfl) (by simp) ?_
          refine AllReadyIn.cons rfl (fun K hK => ?_) AllReadyIn.nil
          go_simp
          refine hK _ _ ?_
          clear hK K
          refine wpAnyIn_done (by kernel_rfl) ?_ _
          exact HX.out
        refine AllReadyIn.cons rfl (fun K hK => ?_) ?_
        · go_simp
          refine hK _ _ ?_
          clear hK K
          refine wpAnyIn_ready (rs := [0, 2]) (by kernel_rfl) (by simp) ?_
          refine AllReadyIn.cons rfl (fun K hK => ?_) ?_
          · go_simp
            refine hK _ _ ?_
            clear hK K
            refine wpAnyIn_ready (rs := [2]) (by kernel_rfl) (by simp) ?_
            refine AllReadyIn.cons rfl (fun K hK => ?_) AllReadyIn.nil
            go_simp
            refine hK _ _ ?_
            clear hK K
            refine wpAnyIn_ready (rs := [3]) (by kernel_rfl) (by simp) ?_
            refine AllReadyIn.cons rfl (fun K hK => ?_) AllReadyIn.nil
            go_simp
            refine ⟨trivial, (CallsIn.inRound l (callsIn_wide.2 (HG.out _ ((Only.refl [] W3).drewN 1)))).mono ?_⟩
            rintro e W2 ⟨rfl, hO⟩
            obtain ⟨c3, c4, g2, cap2, w3, hrun, d1, d2, HX⟩ := HR.out W2 (((Only.refl [] W3).drewN 1).trans hO)
            clear hO
            refine hK _ _ ?_
            clear hK K
            refine wpAnyIn_ready (rs := [4]) (by kernel_rfl) (by simp) ?_
            refine AllReadyIn.cons rfl (fun K hK => ?_) AllReadyIn.nil
            go_simp
            refine hK _ _ ?_
            clear hK K
            refine wpAnyIn_ready (rs := [5]) (by kernel_rfl) (by simp) ?_
            refine AllReadyIn.cons rfl (fun K hK => ?_) AllReadyIn.nil
            go_simp
            refine hK _ _ ?_
            clear hK K
            refine wpAnyIn_ready (rs := [6]) (by kernel_rfl) (by simp) ?_
            refine AllReadyIn.cons rfl (fun K hK => ?_) AllReadyIn.nil
            refine stepIn_append rfl (.tmp 65) (.tmp 70) 26 rfl hrun ?_
            refine hK _ _ ?_
            clear hK K
            simp only [Act.put, List.setIfInBounds_toArray, List.set_cons_zero, List.set_cons_succ]
            refine wpAnyIn_ready (rs := [7]) (by kernel_rfl) (by simp) ?_
            refine AllReadyIn.cons rfl (fun K hK => ?_) AllReadyIn.nil
            go_simp
            refine hK _ _ ?_
            clear hK K
            refine wpAnyIn_done (by kernel_rfl) ?_ _
            exact HX.out
          refine AllReadyIn.cons rfl (fun K hK => ?_) AllReadyIn.nil
          go_simp
          refine hK _ _ ?_
          clear hK K
          refine wpAnyIn_ready (rs := [0, 3]) (by kernel_rfl) (by simp) ?_
          refine AllReadyIn.cons rfl (fun K hK => ?_) ?_
          · go_simp
            refine hK _ _ ?_
            clear hK K
            refine wpAnyIn_ready (rs := [3]) (by kernel_rfl) (by simp) ?_
            refine AllReadyIn.cons rfl (fun K hK => ?_) AllReadyIn.nil
            go_simp
            refine ⟨trivial, (CallsIn.inRound l (callsIn_wide.2 (HG.out _ ((Only.refl [] W3).drewN 1)))).mono ?_⟩
            rintro e W2 ⟨rfl, hO⟩
            obtain ⟨c3, c4, g2, cap2, w3, hrun, d1, d2, HX⟩ := HR.out W2 (((Only.refl [] W3).drewN 1).trans hO)
            clear hO
            refine hK _ _ ?_
            clear hK K
            refine wpAnyIn_ready (rs := [4]) (by kernel_rfl) (by simp) ?_
            refine AllReadyIn.cons rfl (fun K hK => ?_) AllReadyIn.nil
            go_simp
            refine hK _ _ ?_
            clear hK K
            refine wpAnyIn_ready (rs := [5]) (by kernel_rfl) (by simp) ?_
            refine AllReadyIn.cons rfl (fun K hK => ?_) AllReadyIn.nil
            go_simp
            refine hK _ _ ?_
            clear hK K
            refine wpAnyIn_ready (rs := [6]) (by kernel_rfl) (by simp) ?_
            refine AllReadyIn.cons rfl (fun K hK => ?_) AllReadyIn.nil
            refine stepIn_append rfl (.tmp 65) (.tmp 70) 26 rfl hrun ?_
            refine hK _ _ ?_
            clear hK K
            simp only [Act.put, List.setIfInBounds_toArray, List.set_cons_zero, List.set_cons_succ]
            refine wpAnyIn_ready (rs := [7]) (by kernel_rfl) (by simp) ?_
            refine AllReadyIn.cons rfl (fun K hK => ?_) AllReadyIn.nil
            go_simp
            refine hK _ _ ?_
            clear hK K
            refine wpAnyIn_done (by kernel_rfl) ?_ _
            exact HX.out
          refine AllReadyIn.cons rfl (fun K hK => ?_) AllReadyIn.nil
          go_simp
          refine ⟨trivial, (CallsIn.inRound l (callsIn_wide.2 (HG.out _ ((Only.refl [] W3).drewN 1)))).mono ?_⟩
          rintro e W2 ⟨rfl, hO⟩
          obtain ⟨c3, c4, g2, cap2, w3, hrun, d1, d2, HX⟩ := HR.out W2 (((Only.refl [] W3).drewN 1).trans hO)
          clear hO
          refine hK _ _ ?_
          clear hK K
          refine wpAnyIn_ready (rs := [0, 4]) (by kernel_rfl) (by simp) ?_
          refine AllReadyIn.cons rfl (fun K hK => ?_) ?_
          · go_simp
            refine hK _ _ ?_
            clear hK K
            refine wpAnyIn_ready (rs := [4]) (by kernel_rfl) (by simp) ?_
            refine AllReadyIn.cons rfl (fun K hK => ?_) AllReadyIn.nil
            go_simp
            refine hK _ _ ?_
            clear hK K
            refine wpAnyIn_ready (rs := [5]) (by kernel_rfl) (by simp) ?_
            refine AllReadyIn.cons rfl (fun K hK => ?_) AllReadyIn.nil
            go_simp
            refine hK _ _ ?_
            clear hK K
            refine wpAnyIn_ready (rs := [6]) (by kernel_rfl) (by simp) ?_
            refine AllReadyIn.cons rfl (fun K hK => ?_) AllReadyIn.nil
            refine stepIn_append rfl (.tmp 65) (.tmp 70) 26 rfl hrun ?_
            refine hK _ _ ?_
            clear hK K
            simp only [Act.put, List.setIfInBounds_toArray, List.set_cons_zero, List.set_cons_succ]
            refine wpAnyIn_ready (rs := [7]) (by kernel_rfl) (by simp) ?_
            refine AllReadyIn.cons rfl (fun K hK => ?_) AllReadyIn.nil
            go_simp
            refine hK _ _ ?_
            clear hK K
            refine wpAnyIn_done (by kernel_rfl) ?_ _
            exact HX.out
          refine AllReadyIn.cons rfl (fun K hK => ?_) AllReadyIn.nil
          go_simp
          refine hK _ _ ?_
          clear hK K
          refine wpAnyIn_ready (rs := [0, 5]) (by kernel_rfl) (by simp) ?_
          refine AllReadyIn.cons rfl (fun K hK => ?_) ?_
          · go_simp
            refine hK _ _ ?_
            clear hK K
            refine wpAnyIn_ready (rs := [5]) (by kernel_rfl) (by simp) ?_
            refine AllReadyIn.cons rfl (fun K hK => ?_) AllReadyIn.nil
            go_simp
            refine hK _ _ ?_
            clear hK K
            refine wpAnyIn_ready (rs := [6]) (by kernel_rfl) (by simp) ?_
            refine AllReadyIn.cons rfl (fun K hK => ?_) AllReadyIn.nil
            refine stepIn_append rfl (.tmp 65) (.tmp 70) 26 rfl hrun ?_
            refine hK _ _ ?_
            clear hK K
            simp only [Act.put, List.setIfInBounds_toArray, List.set_cons_zero, List.set_cons_succ]
            refine wpAnyIn_ready (rs := [7]) (by kernel_rfl) (by simp) ?_
            refine AllReadyIn.cons rfl (fun K hK => ?_) AllReadyIn.nil
            go_simp
            refine hK _ _ ?_
            clear hK K
            refine wpAnyIn_done (by kernel_rfl) ?_ _
            exact HX.out
          refine AllReadyIn.cons rfl (fun K hK => ?_) AllReadyIn.nil
          go_simp
          refine hK _ _ ?_
          clear hK K
          refine wpAnyIn_ready (rs := [0]) (by kernel_rfl) (by simp) ?_
          refine AllReadyIn.cons rfl (fun K hK => ?_) AllReadyIn.nil
          go_simp
          refine hK _ _ ?_
          clear hK K
          refine wpAnyIn_ready (rs := [6]) (by kernel_rfl) (by simp) ?_
          refine AllReadyIn.cons rfl (fun K hK => ?_) AllReadyIn.nil
          refine stepIn_append rfl (.tmp 65) (.tmp 70) 26 rfl hrun ?_
          refine hK _ _ ?_
          clear hK K
          simp only [Act.put, List.setIfInBounds_toArray, List.set_cons_zero, List.set_cons_succ]
          refine wpAnyIn_ready (rs := [7]) (by kernel_rfl) (by simp) ?_
          refine AllReadyIn.cons rfl (fun K hK => ?_) AllReadyIn.nil
          go_simp
          refine hK _ _ ?_
          clear hK K
          refine wpAnyIn_done (by kernel_rfl) ?_ _
          exact HX.out
        refine AllReadyIn.cons rfl (fun K hK => ?_) AllReadyIn.nil
        go_simp
        refine hK _ _ ?_
        clear hK K
        refine wpAnyIn_ready (rs := [0, 1, 3]) (by kernel_rfl) (by simp) ?_
        refine AllReadyIn.cons rfl (fun K hK => ?_) ?_
        · go_simp
          refine hK _ _ ?_
          clear hK K
          refine wpAnyIn_ready (rs := [1, 3]) (by kernel_rfl) (by simp) ?_
          refine AllReadyIn.cons rfl (fun K hK => ?_) ?_
          · go_simp
            refine hK _ _ ?_
            clear hK K
            refine wpAnyIn_ready (rs := [3]) (by kernel_rfl) (by simp) ?_
            refine AllReadyIn.cons rfl (fun K hK => ?_) AllReadyIn.nil
            go_simp
            refine ⟨trivial, (CallsIn.inRound l (callsIn_wide.2 (HG.out _ ((Only.refl [] W3).drewN 1)))).mono ?_⟩
            rintro e W2 ⟨rfl, hO⟩
            obtain ⟨c3, c4, g2, cap2, w3, hrun, d1, d2, HX⟩ := HR.out W2 (((Only.refl [] W3).drewN 1).trans hO)
            clear hO
            refine hK _ _ ?_
            clear hK K
            refine wpAnyIn_ready (rs := [4]) (by kernel_rfl) (by simp) ?_
            refine AllReadyIn.cons rfl (fun K hK => ?_) AllReadyIn.nil
            go_simp
            refine hK _ _ ?_
            clear hK K
            refine wpAnyIn_ready (rs := [5]) (by kernel_rfl) (by simp) ?_
            refine AllReadyIn.cons rfl (fun K hK => ?_) AllReadyIn.nil
            go_simp
            refine hK _ _ ?_
            clear hK K
            refine wpAnyIn_ready (rs := [6]) (by kernel_rfl) (by simp) ?_
            refine AllReadyIn.cons rfl (fun K hK => ?_) AllReadyIn.nil
            refine stepIn_append rfl (.tmp 65) (.tmp 70) 26 rfl hrun ?_
            refine hK _ _ ?_
            clear hK K
            simp only [Act.put, List.setIfInBounds_toArray, List.set_cons_zero, List.set_cons_succ]
            refine wpAnyIn_ready (rs := [7]) (by kernel_rfl) (by simp) ?_
            refine AllReadyIn.cons rfl (fun K hK => ?_) AllReadyIn.nil
            go_simp
            refine hK _ _ ?_
            clear hK K
            refine wpAnyIn_done (by kernel_rfl) ?_ _
            exact HX.out
          refine AllReadyIn.cons rfl (fun K hK => ?_) AllReadyIn.nil
          go_simp
          refine ⟨trivial, (CallsIn.inRound l (callsIn_wide.2 (HG.out _ ((Only.refl [] W3).drewN 1)))).mono ?_⟩
          rintro e W2 ⟨rfl, hO⟩
          obtain ⟨c3, c4, g2, cap2, w3, hrun, d1, d2, HX⟩ := HR.out W2 (((Only.refl [] W3).drewN 1).trans hO)
          clear hO
          refine hK _ _ ?_
          clear hK K
          refine wpAnyIn_ready (rs := [1]) (by kernel_rfl) (by simp) ?_
          refine AllReadyIn.cons rfl (fun K hK => ?_) AllReadyIn.nil
          go_simp
          refine hK _ _ ?_
          clear hK K
          refine wpAnyIn_ready (rs := [4]) (by kernel_rfl) (by simp) ?_
          refine AllReadyIn.cons rfl (fun K hK => ?_) AllReadyIn.nil
          go_simp
          refine hK _ _ ?_
          clear hK K
          refine wpAnyIn_ready (rs := [5]) (by kernel_rfl) (by simp) ?_
          refine AllReadyIn.cons rfl (fun K hK => ?_) AllReadyIn.nil
          go_simp
          refine hK _ _ ?_
          clear hK K
          refine wpAnyIn_ready (rs := [6]) (by kernel_rfl) (by simp) ?_
          refine AllReadyIn.cons rfl (fun K hK => ?_) AllReadyIn.nil
          refine stepIn_append rfl (.tmp 65) (.tmp 70) 26 rfl hrun ?_
          refine hK _ _ ?_
          clear hK K
          simp only [Act.put, List.setIfInBounds_toArray, List.set_cons_zero, List.set_cons_succ]
          refine wpAnyIn_ready (rs := [7]) (by kernel_rfl) (by simp) ?_
          refine AllReadyIn.cons rfl (fun K hK => ?_) AllReadyIn.nil
          go_simp
          refine hK _ _ ?_
          clear hK K
          refine wpAnyIn_done (by kernel_rfl) ?_ _
          exact HX.out
        refine AllReadyIn.cons rfl (fun K hK => ?_) ?_
        · go_simp
          refine hK _ _ ?_
          clear hK K
          refine wpAnyIn_ready (rs := [0, 3]) (by kernel_rfl) (by simp) ?_
          refine AllReadyIn.cons rfl (fun K hK => ?_) ?_
          · go_simp
            refine hK _ _ ?_
            clear hK K
            refine wpAnyIn_ready (rs := [3]) (by kernel_rfl) (by simp) ?_
            refine AllReadyIn.cons rfl (fun K hK => ?_) AllReadyIn.nil
            go_simp
            refine ⟨trivial, (CallsIn.inRound l (callsIn_wide.2 (HG.out _ ((Only.refl [] W3).drewN 1)))).mono ?_⟩
            rintro e W2 ⟨rfl, hO⟩
            obtain ⟨c3, c4, g2, cap2, w3, hrun, d1, d2, HX⟩ := HR.out W2 (((Only.refl [] W3).drewN 1).trans hO)
            clear hO
            refine hK _ _ ?_
            clear hK K
            refine wpAnyIn_ready (rs := [4]) (by kernel_rfl) (by simp) ?_
            refine AllReadyIn.cons rfl (fun K hK => ?_) AllReadyIn.nil
            go_simp
            refine hK _ _ ?_
            clear hK K
            refine wpAnyIn_ready (rs := [5]) (by kernel_rfl) (by simp) ?_
            refine AllReadyIn.cons rfl (fun K hK => ?_) AllReadyIn.nil
            go_simp
            refine hK _ _ ?_
            clear hK K
            refine wpAnyIn_ready (rs := [6]) (by kernel_rfl) (by simp) ?_
            refine AllReadyIn.cons rfl (fun K hK => ?_) AllReadyIn.nil
            refine stepIn_append rfl (.tmp 65) (.tmp 70) 26 rfl hrun ?_
            refine hK _ _ ?_
            clear hK K
            simp only [Act.put, List.setIfInBounds_toArray, List.set_cons_zero, List.set_cons_succ]
            refine wpAnyIn_ready (rs := [7]) (by kernel_rfl) (by simp) ?_
            refine AllReadyIn.cons rfl (fun K hK => ?_) AllReadyIn.nil
            go_simp
            refine hK _ _ ?_
            clear hK K
            refine wpAnyIn_done (by kernel_rfl) ?_ _
            exact HX.out
          refine AllReadyIn.cons rfl (fun K hK => ?_) AllReadyIn.nil
          go_simp
          refine ⟨trivial, (CallsIn.inRound l (callsIn_wide.2 (HG.out _ ((Only.refl [] W3).drewN 1)))).mono ?_⟩
          rintro e W2 ⟨rfl, hO⟩
          obtain ⟨c3, c4, g2, cap2, w3, hrun, d1, d2, HX⟩ := HR.out W2 (((Only.refl [] W3).drewN 1).trans hO)
          clear hO
          refine hK _ _ ?_
          clear hK K
          refine wpAnyIn_ready (rs := [0, 4]) (by kernel_rfl) (by simp) ?_
          refine AllReadyIn.cons rfl (fun K hK => ?_) ?_
          · go_simp
            refine hK _ _ ?_
            clear hK K
            refine wpAnyIn_ready (rs := [4]) (by kernel_rfl) (by simp) ?_
            refine AllReadyIn.cons rfl (fun K hK => ?_) AllReadyIn.nil
            go_simp
            refine hK _ _ ?_
            clear hK K
            refine wpAnyIn_ready (rs := [5]) (by kernel_rfl) (by simp) ?_
            refine AllReadyIn.cons rfl (fun K hK => ?_) AllReadyIn.nil
            go_simp
            refine hK _ _ ?_
            clear hK K
            refine wpAnyIn_ready (rs := [6]) (by kernel_rfl) (by simp) ?_
            refine AllReadyIn.cons rfl (fun K hK => ?_) AllReadyIn.nil
            refine stepIn_append rfl (.tmp 65) (.tmp 70) 26 rfl hrun ?_
            refine hK _ _ ?_
            clear hK K
            simp only [Act.put, List.setIfInBounds_toArray, List.set_cons_zero, List.set_cons_succ]
            refine wpAnyIn_ready (rs := [7]) (by kernel_rfl) (by simp) ?_
            refine AllReadyIn.cons rfl (fun K hK => ?_) AllReadyIn.nil
            go_simp
            refine hK _ _ ?_
            clear hK K
            refine wpAnyIn_done (by kernel_rfl) ?_ _
            exact HX.out
          refine AllReadyIn.cons rfl (fun K hK => ?_) AllReadyIn.nil
          go_simp
          refine hK _ _ ?_
          clear hK K
          refine wpAnyIn_ready (rs := [0, 5]) (by kernel_rfl) (by simp) ?_
          refine AllReadyIn.cons rfl (fun K hK => ?_) ?_
          · go_simp
            refine hK _ _ ?_
            clear hK K
            refine wpAnyIn_ready (rs := [5]) (by kernel_rfl) (by simp) ?_
            refine AllReadyIn.cons rfl (fun K hK => ?_) AllReadyIn.nil
            go_simp
            refine hK _ _ ?_
            clear hK K
            refine wpAnyIn_ready (rs := [6]) (by kernel_rfl) (by simp) ?_
            refine AllReadyIn.cons rfl (fun K hK => ?_) AllReadyIn.nil
            refine stepIn_append rfl (.tmp 65) (.tmp 70) 26 rfl hrun ?_
            refine hK _ _ ?_
            clear hK K
            simp only [Act.put, List.setIfInBounds_toArray, List.set_cons_zero, List.set_cons_succ]
            refine wpAnyIn_ready (rs := [7]) (by kernel_rfl) (by simp) ?_
            refine AllReadyIn.cons rfl (fun K hK => ?_) AllReadyIn.nil
            go_simp
            refine hK _ _ ?_
            clear hK K
            refine wpAnyIn_done (by kernel_rfl) ?_ _
            exact HX.out
          refine AllReadyIn.cons rfl (fun K hK => ?_) AllReadyIn.nil
          go_simp
          refine hK _ _ ?_
          clear hK K
          refine wpAnyIn_ready (rs := [0]) (by kernel_rfl) (by simp) ?_
          refine AllReadyIn.cons rfl (fun K hK => ?_) AllReadyIn.nil
          go_simp
          refine hK _ _ ?_
          clear hK K
          refine wpAnyIn_ready (rs := [6]) (by kernel_rfl) (by simp) ?_
          refine AllReadyIn.cons rfl (fun K hK => ?_) AllReadyIn.nil
          refine stepIn_append rfl (.tmp 65) (.tmp 70) 26 rfl hrun ?_
          refine hK _ _ ?_
          clear hK K
          simp only [Act.put, List.setIfInBounds_toArray, List.set_cons_zero, List.set_cons_succ]
          refine wpAnyIn_ready (rs := [7]) (by kernel_rfl) (by simp) ?_
          refine AllReadyIn.cons rfl (fun K hK => ?_) AllReadyIn.nil
          go_simp
          refine hK _ _ ?_
          clear hK K
          refine wpAnyIn_done (by kernel_rfl) ?_ _
          exact HX.out
        refine AllReadyIn.cons rfl (fun K hK => ?_) AllReadyIn.nil
        go_simp
        refine ⟨trivial, (CallsIn.inRound l (callsIn_wide.2 (HG.out _ ((Only.refl [] W3).drewN 1)))).mono ?_⟩
        rintro e W2 ⟨rfl, hO⟩
        obtain ⟨c3, c4, g2, cap2, w3, hrun, d1, d2, HX⟩ := HR.out W2 (((Only.refl [] W3).drewN 1).trans hO)
        clear hO
        refine hK _ _ ?_
        clear hK K
        refine wpAnyIn_ready (rs := [0, 1]) (by kernel_rfl) (by simp) ?_
        refine AllReadyIn.cons rfl (fun K hK => ?_) ?_
        · go_simp
          refine hK _ _ ?_
          clear hK K
          refine wpAnyIn_ready (rs := [1]) (by kernel_rfl) (by simp) ?_
          refine AllReadyIn.cons rfl (fun K hK => ?_) AllReadyIn.nil
          go_simp
          refine hK _ _ ?_
          clear hK K
          refine wpAnyIn_ready (rs := [4]) (by kernel_rfl) (by simp) ?_
          refine AllReadyIn.cons rfl (fun K hK => ?_) AllReadyIn.nil
          go_simp
          refine hK _ _ ?_
          clear hK K
          refine wpAnyIn_ready (rs := [5]) (by kernel_rfl) (by simp) ?_
          refine AllReadyIn.cons rfl (fun K hK => ?_) AllReadyIn.nil
          go_simp
          refine hK _ _ ?_
          clear hK K
          refine wpAnyIn_ready (rs := [6]) (by kernel_rfl) (by simp) ?_
          refine AllReadyIn.cons rfl (fun K hK => ?_) AllReadyIn.nil
          refine stepIn_append rfl (.tmp 65) (.tmp 70) 26 rfl hrun ?_
          refine hK _ _ ?_
          clear hK K
          simp only [Act.put, List.setIfInBounds_toArray, List.set_cons_zero, List.set_cons_succ]
          refine wpAnyIn_ready (rs := [7]) (by kernel_rfl) (by simp) ?_
          refine AllReadyIn.cons rfl (fun K hK => ?_) AllReadyIn.nil
          go_simp
          refine hK _ _ ?_
          clear hK K
          refine wpAnyIn_done (by kernel_rfl) ?_ _
          exact HX.out
        refine AllReadyIn.cons rfl (fun K hK => ?_) AllReadyIn.nil
        go_simp
        refine hK _ _ ?_
        clear hK K
        refine wpAnyIn_ready (rs := [0, 4]) (by kernel_rfl) (by simp) ?_
        refine AllReadyIn.cons rfl (fun K hK => ?_) ?_
        · go_simp
          refine hK _ _ ?_
          clear hK K
          refine wpAnyIn_ready (rs := [4]) (by kernel_rfl) (by simp) ?_
          refine AllReadyIn.cons rfl (fun K hK => ?_) AllReadyIn.nil
          go_simp
          refine hK _ _ ?_
          clear hK K
          refine wpAnyIn_ready (rs := [5]) (by kernel_rfl) (by simp) ?_
          refine AllReadyIn.cons rfl (fun K hK => ?_) AllReadyIn.nil
          go_simp
          refine hK _ _ ?_
          clear hK K
          refine wpAnyIn_ready (rs := [6]) (by kernel_rfl) (by simp) ?_
          refine AllReadyIn.cons rfl (fun K hK => ?_) AllReadyIn.nil
          refine stepIn_append rfl (.tmp 65) (.tmp 70) 26 rfl hrun ?_
          refine hK _ _ ?_
          clear hK K
          simp only [Act.put, List.setIfInBounds_toArray, List.set_cons_zero, List.set_cons_succ]
          refine wpAnyIn_ready (rs := [7]) (by kernel_rfl) (by simp) ?_
          refine AllReadyIn.cons rfl (fun K hK => ?_) AllReadyIn.nil
          go_simp
          refine hK _ _ ?_
          clear hK K
          refine wpAnyIn_done (by kernel_rfl) ?_ _
          exact HX.out
        refine AllReadyIn.cons rfl (fun K hK => ?_) AllReadyIn.nil
        go_simp
        refine hK _ _ ?_
        clear hK K
        refine wpAnyIn_ready (rs := [0, 5]) (by kernel_rfl) (by simp) ?_
        refine AllReadyIn.cons rfl (fun K hK => ?_) ?_
        · go_simp
          refine hK _ _ ?_
          clear hK K
          refine wpAnyIn_ready (rs := [5]) (by kernel_rfl) (by simp) ?_
          refine AllReadyIn.cons rfl (fun K hK => ?_) AllReadyIn.nil
          go_simp
          refine hK _ _ ?_
          clear hK K
          refine wpAnyIn_ready (rs := [6]) (by kernel_rfl) (by simp) ?_
          refine AllReadyIn.cons rfl (fun K hK => ?_) AllReadyIn.nil
          refine stepIn_append rfl (.tmp 65) (.tmp 70) 26 rfl hrun ?_
          refine hK _ _ ?_
          clear hK K
          simp only [Act.put, List.setIfInBounds_toArray, List.set_cons_zero, List.set_cons_succ]
          refine wpAnyIn_ready (rs := [7]) (by kernel_rfl) (by simp) ?_
          refine AllReadyIn.cons rfl (fun K hK => ?_) AllReadyIn.nil
          go_simp
          refine hK _ _ ?_
          clear hK K
          refine wpAnyIn_done (by kernel_rfl) ?_ _
          exact HX.out
        refine AllReadyIn.cons rfl (fun K hK => ?_) AllReadyIn.nil
        go_simp
        refine hK _ _ ?_
        clear hK K
        refine wpAnyIn_ready (rs := [0]) (by kernel_rfl) (by simp) ?_
        refine AllReadyIn.cons rfl (fun K hK => ?_) AllReadyIn.nil
        go_simp
        refine hK _ _ ?_
        clear hK K
        refine wpAnyIn_ready (rs := [6]) (by kernel_rfl) (by simp) ?_
        refine AllReadyIn.cons rfl (fun K hK => ?_) AllReadyIn.nil
        refine stepIn_append rfl (.tmp 65) (.tmp 70) 26 rfl hrun ?_
        refine hK _ _ ?_
        clear hK K
        simp only [Act.put, List.setIfInBounds_toArray, List.set_cons_zero, List.set_cons_succ]
        refine wpAnyIn_ready (rs := [7]) (by kernel_rfl) (by simp) ?_
        refine AllReadyIn.cons rfl (fun K hK => ?_) AllReadyIn.nil
        go_simp
        refine hK _ _ ?_
        clear hK K
        refine wpAnyIn_done (by kernel_rfl) ?_ _
        exact HX.out
      · obtain ⟨cx, cj, hlt1⟩ := HCX.out (by omega)
        have hjm1 : j + 1 < me := by omega
        have hl1 : ((j : Int) + 1 == (me : Int)) = false := by simp; omega
        have hl2 : ¬ (j : Int) + 1 = (me : Int) := by omega
        gi_wp2_with fail
        refine wpIn_quiet_round (by kernel_rfl) hmix (by kernel_rfl) ?_
        repeat (gi_big_quiet_step (fail))
        refine wpQuietIn_nil ?_
        intro _ hw'
        obtain ⟨nq, hw''⟩ := hw'
        subst hw''
        by_cases hx : x (o (j + 1)) = x (o j)
        · have he : isEnd me x o (j + 1) = false := by unfold isEnd; simp [hl, hx]
          gi_wp2_with fail
          refine ⟨KeepsOthers.of_only (HC3.out.1.trans ((Only.refl [] W1).drewN nq)), ?_⟩
          exact (HC3.out.2.keep ((Only.refl [] W1).drewN nq)).same he
        · have he : isEnd me x o (j + 1) = true := by unfold isEnd; simp [hx]
          gi_wp2_with fail
          obtain ⟨W3, hW3⟩ : ∃ W3, W1.drewN nq = W3 := ⟨_, rfl⟩
          have hO3 : Only [] W1 W3 := hW3 ▸ (Only.refl [] W1).drewN nq
          rw [hW3]
          obtain ⟨HG, v, HR⟩ := HP.out he W3 hO3
          obtain ⟨c3, _⟩ := HR.out W3 (Only.refl [] W3)
          have cT := (KeepC.of_only (b := 0) hO3).cells _ _ HBT.out rfl
          replace cT := cell_of_heap (i := 0) cT rfl
          clear hW3 cL hO3 HP hl hl1 hl2
          gi_wp2_with fail
          refine wpIn_region_any hmix ?_
          change wpAnyIn _ _ _ _ _ _ _ _ _ (World.drew _)
          refine wpAnyIn_ready (rs := [0, 1, 2]) (by kernel_rfl) (by simp) ?_
          refine AllReadyIn.cons rfl (fun K hK => ?_) ?_
          · go_simp
            refine hK _ _ ?_
            clear hK K
            refine wpAnyIn_ready (rs := [1, 2]) (by kernel_rfl) (by simp) ?_
            refine AllReadyIn.cons rfl (fun K hK => ?_) ?_
            · go_simp
              refine hK _ _ ?_
              clear hK K
              refine wpAnyIn_ready (rs := [2]) (by kernel_rfl) (by simp) ?_
              refine AllReadyIn.cons rfl (fun K hK => ?_) AllReadyIn.nil
              go_simp
              refine hK _ _ ?_
              clear hK K
              refine wpAnyIn_ready (rs := [3]) (by kernel_rfl) (by simp) ?_
              refine AllReadyIn.cons rfl (fun K hK => ?_) AllReadyIn.nil
              go_simp
              refine ⟨trivial, (CallsIn.inRound l (callsIn_wide.2 (HG.out _ ((Only.refl [] W3).drewN 1)))).mono ?_⟩
              rintro e W2 ⟨rfl, hO⟩
              obtain ⟨c3, c4, g2, cap2, w3, hrun, d1, d2, HX⟩ := HR.out W2 (((Only.refl [] W3).drewN 1).trans hO)
              clear hO
              refine hK _ _ ?_
              clear hK K
              refine wpAnyIn_ready (rs := [4]) (by kernel_rfl) (by simp) ?_
              refine AllReadyIn.cons rfl (fun K hK => ?_) AllReadyIn.nil
              go_simp
              refine hK _ _ ?_
              clear hK K
              refine wpAnyIn_ready (rs := [5]) (by kernel_rfl) (by simp) ?_
              refine AllReadyIn.cons rfl (fun K hK => ?_) AllReadyIn.nil
              go_simp
              refine hK _ _ ?_
              clear hK K
              refine wpAnyIn_ready (rs := [6]) (by kernel_rfl) (by simp) ?_
              refine AllReadyIn.cons rfl (fun K hK => ?_) AllReadyIn.nil
              refine stepIn_append rfl (.tmp 65) (.tmp 70) 26 rfl hrun ?_
              refine hK _ _ ?_
              clear hK K
              simp only [Act.put, List.setIfInBounds_toArray, List.set_cons_zero, List.set_cons_succ]
              refine wpAnyIn_ready (rs := [7]) (by kernel_rfl) (by simp) ?_
              refine AllReadyIn.cons rfl (fun K hK => ?_) AllReadyIn.nil
              go_simp
              refine hK _ _ ?_
              clear hK K
              refine wpAnyIn_done (by kernel_rfl) ?_ _
              exact HX.out
            refine AllReadyIn.cons rfl (fun K hK => ?_) AllReadyIn.nil
            go_simp
            refine hK _ _ ?_
            clear hK K
            refine wpAnyIn_ready (rs := [1, 3]) (by kernel_rfl) (by simp) ?_
            refine AllReadyIn.cons rfl (fun K hK => ?_) ?_
            · go_simp
              refine hK _ _ ?_
              clear hK K
              refine wpAnyIn_ready (rs := [3]) (by kernel_rfl) (by simp) ?_
              refine AllReadyIn.cons rfl (fun K hK => ?_) AllReadyIn.nil
              go_simp
              refine ⟨trivial, (CallsIn.inRound l (callsIn_wide.2 (HG.out _ ((Only.refl [] W3).drewN 1)))).mono ?_⟩
              rintro e W2 ⟨rfl, hO⟩
              obtain ⟨c3, c4, g2, cap2, w3, hrun, d1, d2, HX⟩ := HR.out W2 (((Only.refl [] W3).drewN 1).trans hO)
              clear hO
              refine hK _ _ ?_
              clear hK K
              refine wpAnyIn_ready (rs := [4]) (by kernel_rfl) (by simp) ?_
              refine AllReadyIn.cons rfl (fun K hK => ?_) AllReadyIn.nil
              go_simp
              refine hK _ _ ?_
              clear hK K
              refine wpAnyIn_ready (rs := [5]) (by kernel_rfl) (by simp) ?_
              refine AllReadyIn.cons rfl (fun K hK => ?_) AllReadyIn.nil
              go_simp
              refine hK _ _ ?_
              clear hK K
              refine wpAnyIn_ready (rs := [6]) (by kernel_rfl) (by simp) ?_
              refine AllReadyIn.cons rfl (fun K hK => ?_) AllReadyIn.nil
              refine stepIn_append rfl (.tmp 65) (.tmp 70) 26 rfl hrun ?_
              refine hK _ _ ?_
              clear hK K
              simp only [Act.put, List.setIfInBounds_toArray, List.set_cons_zero, List.set_cons_succ]
              refine wpAnyIn_ready (rs := [7]) (by kernel_rfl) (by simp) ?_
              refine AllReadyIn.cons rfl (fun K hK => ?_) AllReadyIn.nil
              go_simp
              refine hK _ _ ?_
              clear hK K
              refine wpAnyIn_done (by kernel_rfl) ?_ _
              exact HX.out
            refine AllReadyIn.cons rfl (fun K hK => ?_) AllReadyIn.nil
            go_simp
            refine ⟨trivial, (CallsIn.inRound l (callsIn_wide.2 (HG.out _ ((Only.refl [] W3).drewN 1)))).mono ?_⟩
            rintro e W2 ⟨rfl, hO⟩
            obtain ⟨c3, c4, g2, cap2, w3, hrun, d1, d2, HX⟩ := HR.out W2 (((Only.refl [] W3).drewN 1).trans hO)
            clear hO
            refine hK _ _ ?_
            clear hK K
            refine wpAnyIn_ready (rs := [1]) (by kernel_rfl) (by simp) ?_
            refine AllReadyIn.cons rfl (fun K hK => ?_) AllReadyIn.nil
            go_simp
            refine hK _ _ ?_
            clear hK K
            refine wpAnyIn_ready (rs := [4]) (by kernel_rfl) (by simp) ?_
            refine AllReadyIn.cons rfl (fun K hK => ?_) AllReadyIn.nil
            go_simp
            refine hK _ _ ?_
            clear hK K
            refine wpAnyIn_ready (rs := [5]) (by kernel_rfl) (by simp) ?_
            refine AllReadyIn.cons rfl (fun K hK => ?_) AllReadyIn.nil
            go_simp
            refine hK _ _ ?_
            clear hK K
            refine wpAnyIn_ready (rs := [6]) (by kernel_rfl) (by simp) ?_
            refine AllReadyIn.cons rfl (fun K hK => ?_) AllReadyIn.nil
            refine stepIn_append rfl (.tmp 65) (.tmp 70) 26 rfl hrun ?_
            refine hK _ _ ?_
            clear hK K
            simp only [Act.put, List.setIfInBounds_toArray, List.set_cons_zero, List.set_cons_succ]
            refine wpAnyIn_ready (rs := [7]) (by kernel_rfl) (by simp) ?_
            refine AllReadyIn.cons rfl (fun K hK => ?_) AllReadyIn.nil
            go_simp
            refine hK _ _ ?_
            clear hK K
            refine wpAnyIn_done (by kernel_rfl) ?_ _
            exact HX.out
          refine AllReadyIn.cons rfl (fun K hK => ?_) ?_
          · go_simp
            refine hK _ _ ?_
            clear hK K
            refine wpAnyIn_ready (rs := [0, 2]) (by kernel_rfl) (by simp) ?_
            refine AllReadyIn.cons rfl (fun K hK => ?_) ?_
            · go_simp
              refine hK _ _ ?_
              clear hK K
              refine wpAnyIn_ready (rs := [2]) (by kernel_rfl) (by simp) ?_
              refine AllReadyIn.cons rfl (fun K hK => ?_) AllReadyIn.nil
              go_simp
              refine hK _ _ ?_
              clear hK K
              refine wpAnyIn_ready (rs := [3]) (by kernel_rfl) (by simp) ?_
              refine AllReadyIn.cons rfl (fun K hK => ?_) AllReadyIn.nil
              go_simp
              refine ⟨trivial, (CallsIn.inRound l (callsIn_wide.2 (HG.out _ ((Only.refl [] W3).drewN 1)))).mono ?_⟩
              rintro e W2 ⟨rfl, hO⟩
              obtain ⟨c3, c4, g2, cap2, w3, hrun, d1, d2, HX⟩ := HR.out W2 (((Only.refl [] W3).drewN 1).trans hO)
              clear hO
              refine hK _ _ ?_
              clear hK K
              refine wpAnyIn_ready (rs := [4]) (by kernel_rfl) (by simp) ?_
              refine AllReadyIn.cons rfl (fun K hK => ?_) AllReadyIn.nil
              go_simp
              refine hK _ _ ?_
              clear hK K
              refine wpAnyIn_ready (rs := [5]) (by kernel_rfl) (by simp) ?_
              refine AllReadyIn.cons rfl (fun K hK => ?_) AllReadyIn.nil
              go_simp
              refine hK _ _ ?_
              clear hK K
              refine wpAnyIn_ready (rs := [6]) (by kernel_rfl) (by simp) ?_
              refine AllReadyIn.cons rfl (fun K hK => ?_) AllReadyIn.nil
              refine stepIn_append rfl (.tmp 65) (.tmp 70) 26 rfl hrun ?_
              refine hK _ _ ?_
              clear hK K
              simp only [Act.put, List.setIfInBounds_toArray, List.set_cons_zero, List.set_cons_succ]
              refine wpAnyIn_ready (rs := [7]) (by kernel_rfl) (by simp) ?_
              refine AllReadyIn.cons rfl (fun K hK => ?_) AllReadyIn.nil
              go_simp
              refine hK _ _ ?_
              clear hK K
              refine wpAnyIn_done (by kernel_rfl) ?_ _
              exact HX.out
            refine AllReadyIn.cons rfl (fun K hK => ?_) AllReadyIn.nil
            go_simp
            refine hK _ _ ?_
            clear hK K
            refine wpAnyIn_ready (rs := [0, 3]) (by kernel_rfl) (by simp) ?_
            refine AllReadyIn.cons rfl (fun K hK => ?_) ?_
            · go_simp
              refine hK _ _ ?_
              clear hK K
              refine wpAnyIn_ready (rs := [3]) (by kernel_rfl) (by simp) ?_
              refine AllReadyIn.cons rfl (fun K hK => ?_) AllReadyIn.nil
              go_simp
              refine ⟨trivial, (CallsIn.inRound l (callsIn_wide.2 (HG.out _ ((Only.refl [] W3).drewN 1)))).mono ?_⟩
              rintro e W2 ⟨rfl, hO⟩
              obtain ⟨c3, c4, g2, cap2, w3, hrun, d1, d2, HX⟩ := HR.out W2 (((Only.refl [] W3).drewN 1).trans hO)
              clear hO
              refine hK _ _ ?_
              clear hK K
              refine wpAnyIn_ready (rs := [4]) (by kernel_rfl) (by simp) ?_
              refine AllReadyIn.cons rfl (fun K hK => ?_) AllReadyIn.nil
              go_simp
              refine hK _ _ ?_
              clear hK K
              refine wpAnyIn_ready (rs := [5]) (by kernel_rfl) (by simp) ?_
              refine AllReadyIn.cons rfl (fun K hK => ?_) AllReadyIn.nil
              go_simp
              refine hK _ _ ?_
              clear hK K
              refine wpAnyIn_ready (rs := [6]) (by kernel_rfl) (by simp) ?_
              refine AllReadyIn.cons rfl (fun K hK => ?_) AllReadyIn.nil
              refine stepIn_append rfl (.tmp 65) (.tmp 70) 26 rfl hrun ?_
              refine hK _ _ ?_
              clear hK K
              simp only [Act.put, List.setIfInBounds_toArray, List.set_cons_zero, List.set_cons_succ]
              refine wpAnyIn_ready (rs := [7]) (by kernel_rfl) (by simp) ?_
              refine AllReadyIn.cons rfl (fun K hK => ?_) AllReadyIn.nil
              go_simp
              refine hK _ _ ?_
              clear hK K
              refine wpAnyIn_done (by kernel_rfl) ?_ _
              exact HX.out
            refine AllReadyIn.cons rfl (fun K hK => ?_) AllReadyIn.nil
            go_simp
            refine ⟨trivial, (CallsIn.inRound l (callsIn_wide.2 (HG.out _ ((Only.refl [] W3).drewN 1)))).mono ?_⟩
            rintro e W2 ⟨rfl, hO⟩
            obtain ⟨c3, c4, g2, cap2, w3, hrun, d1, d2, HX⟩ := HR.out W2 (((Only.refl [] W3).drewN 1).trans hO)
            clear hO
            refine hK _ _ ?_
            clear hK K
            refine wpAnyIn_ready (rs := [0, 4]) (by kernel_rfl) (by simp) ?_
            refine AllReadyIn.cons rfl (fun K hK => ?_) ?_
            · go_simp
              refine hK _ _ ?_
              clear hK K
              refine wpAnyIn_ready (rs := [4]) (by kernel_rfl) (by simp) ?_
              refine AllReadyIn.cons rfl (fun K hK => ?_) AllReadyIn.nil
              go_simp
              refine hK _ _ ?_
              clear hK K
              refine wpAnyIn_ready (rs := [5]) (by kernel_rfl) (by simp) ?_
              refine AllReadyIn.cons rfl (fun K hK => ?_) AllReadyIn.nil
              go_simp
              refine hK _ _ ?_
              clear hK K
              refine wpAnyIn_ready (rs := [6]) (by kernel_rfl) (by simp) ?_
              refine AllReadyIn.cons rfl (fun K hK => ?_) AllReadyIn.nil
              refine stepIn_append rfl (.tmp 65) (.tmp 70) 26 rfl hrun ?_
              refine hK _ _ ?_
              clear hK K
              simp only [Act.put, List.setIfInBounds_toArray, List.set_cons_zero, List.set_cons_succ]
              refine wpAnyIn_ready (rs := [7]) (by kernel_rfl) (by simp) ?_
              refine AllReadyIn.cons rfl (fun K hK => ?_) AllReadyIn.nil
              go_simp
              refine hK _ _ ?_
              clear hK K
              refine wpAnyIn_done (by kernel_rfl) ?_ _
              exact HX.out
            refine AllReadyIn.cons rfl (fun K hK => ?_) AllReadyIn.nil
            go_simp
            refine hK _ _ ?_
            clear hK K
            refine wpAnyIn_ready (rs := [0, 5]) (by kernel_rfl) (by simp) ?_
            refine AllReadyIn.cons rfl (fun K hK => ?_) ?_
            · go_simp
              refine hK _ _ ?_
              clear hK K
              refine wpAnyIn_ready (rs := [5]) (by kernel_rfl) (by simp) ?_
              refine AllReadyIn.cons rfl (fun K hK => ?_) AllReadyIn.nil
              go_simp
              refine hK _ _ ?_
              clear hK K
              refine wpAnyIn_ready (rs := [6]) (by kernel_rfl) (by simp) ?_
              refine AllReadyIn.cons rfl (fun K hK => ?_) AllReadyIn.nil
              refine stepIn_append rfl (.tmp 65) (.tmp 70) 26 rfl hrun ?_
              refine hK _ _ ?_
              clear hK K
              simp only [Act.put, List.setIfInBounds_toArray, List.set_cons_zero, List.set_cons_succ]
              refine wpAnyIn_ready (rs := [7]) (by kernel_rfl) (by simp) ?_
              refine AllReadyIn.cons rfl (fun K hK => ?_) AllReadyIn.nil
              go_simp
              refine hK _ _ ?_
              clear hK K
              refine wpAnyIn_done (by kernel_rfl) ?_ _
              exact HX.out
            refine AllReadyIn.cons rfl (fun K hK => ?_) AllReadyIn.nil
            go_simp
            refine hK _ _ ?_
            clear hK K
            refine wpAnyIn_ready (rs := [0]) (by kernel_rfl) (by simp) ?_
            refine AllReadyIn.cons rfl (fun K hK => ?_) AllReadyIn.nil
            go_simp
            refine hK _ _ ?_
            clear hK K
            refine wpAnyIn_ready (rs := [6]) (by kernel_rfl) (by simp) ?_
            refine AllReadyIn.cons rfl (fun K hK => ?_) AllReadyIn.nil
            refine stepIn_append rfl (.tmp 65) (.tmp 70) 26 rfl hrun ?_
            refine hK _ _ ?_
            clear hK K
            simp only [Act.put, List.setIfInBounds_toArray, List.set_cons_zero, List.set_cons_succ]
            refine wpAnyIn_ready (rs := [7]) (by kernel_rfl) (by simp) ?_
            refine AllReadyIn.cons rfl (fun K hK => ?_) AllReadyIn.nil
            go_simp
            refine hK _ _ ?_
            clear hK K
            refine wpAnyIn_done (by kernel_rfl) ?_ _
            exact HX.out
          refine AllReadyIn.cons rfl (fun K hK => ?_) AllReadyIn.nil
          go_simp
          refine hK _ _ ?_
          clear hK K
          refine wpAnyIn_ready (rs := [0, 1, 3]) (by kernel_rfl) (by simp) ?_
          refine AllReadyIn.cons rfl (fun K hK => ?_) ?_
          · go_simp
            refine hK _ _ ?_
            clear hK K
            refine wpAnyIn_ready (rs := [1, 3]) (by kernel_rfl) (by simp) ?_
            refine AllReadyIn.cons rfl (fun K hK => ?_) ?_
            · go_simp
              refine hK _ _ ?_
              clear hK K
              refine wpAnyIn_ready (rs := [3]) (by kernel_rfl) (by simp) ?_
              refine AllReadyIn.cons rfl (fun K hK => ?_) AllReadyIn.nil
              go_simp
              refine ⟨trivial, (CallsIn.inRound l (callsIn_wide.2 (HG.out _ ((Only.refl [] W3).drewN 1)))).mono ?_⟩
              rintro e W2 ⟨rfl, hO⟩
              obtain ⟨c3, c4, g2, cap2, w3, hrun, d1, d2, HX⟩ := HR.out W2 (((Only.refl [] W3).drewN 1).trans hO)
              clear hO
              refine hK _ _ ?_
              clear hK K
              refine wpAnyIn_ready (rs := [4]) (by kernel_rfl) (by simp) ?_
              refine AllReadyIn.cons rfl (fun K hK => ?_) AllReadyIn.nil
              go_simp
              refine hK _ _ ?_
              clear hK K
              refine wpAnyIn_ready (rs := [5]) (by kernel_rfl) (by simp) ?_
              refine AllReadyIn.cons rfl (fun K hK => ?_) AllReadyIn.nil
              go_simp
              refine hK _ _ ?_
              clear hK K
              refine wpAnyIn_ready (rs := [6]) (by kernel_rfl) (by simp) ?_
              refine AllReadyIn.cons rfl (fun K hK => ?_) AllReadyIn.nil
              refine stepIn_append rfl (.tmp 65) (.tmp 70) 26 rfl hrun ?_
              refine hK _ _ ?_
              clear hK K
              simp only [Act.put, List.setIfInBounds_toArray, List.set_cons_zero, List.set_cons_succ]
              refine wpAnyIn_ready (rs := [7]) (by kernel_rfl) (by simp) ?_
              refine AllReadyIn.cons rfl (fun K hK => ?_) AllReadyIn.nil
              go_simp
              refine hK _ _ ?_
              clear hK K
              refine wpAnyIn_done (by kernel_rfl) ?_ _
              exact HX.out
            refine AllReadyIn.cons rfl (fun K hK => ?_) AllReadyIn.nil
            go_simp
            refine ⟨trivial, (CallsIn.inRound l (callsIn_wide.2 (HG.out _ ((Only.refl [] W3).drewN 1)))).mono ?_⟩
            rintro e W2 ⟨rfl, hO⟩
            obtain ⟨c3, c4, g2, cap2, w3, hrun, d1, d2, HX⟩ := HR.out W2 (((Only.refl [] W3).drewN 1).trans hO)
            clear hO
            refine hK _ _ ?_
            clear hK K
            refine wpAnyIn_ready (rs := [1]) (by kernel_rfl) (by simp) ?_
            refine AllReadyIn.cons rfl (fun K hK => ?_) AllReadyIn.nil
            go_simp
            refine hK _ _ ?_
            clear hK K
            refine wpAnyIn_ready (rs := [4]) (by kernel_rfl) (by simp) ?_
            refine AllReadyIn.cons rfl (fun K hK => ?_) AllReadyIn.nil
            go_simp
            refine hK _ _ ?_
            clear hK K
            refine wpAnyIn_ready (rs := [5]) (by kernel_rfl) (by simp) ?_
            refine AllReadyIn.cons rfl (fun K hK => ?_) AllReadyIn.nil
            go_simp
            refine hK _ _ ?_
            clear hK K
            refine wpAnyIn_ready (rs := [6]) (by kernel_rfl) (by simp) ?_
            refine AllReadyIn.cons rfl (fun K hK => ?_) AllReadyIn.nil
            refine stepIn_append rfl (.tmp 65) (.tmp 70) 26 rfl hrun ?_
            refine hK _ _ ?_
            clear hK K
            simp only [Act.put, List.setIfInBounds_toArray, List.set_cons_zero, List.set_cons_succ]
            refine wpAnyIn_ready (rs := [7]) (by kernel_rfl) (by simp) ?_
            refine AllReadyIn.cons rfl (fun K hK => ?_) AllReadyIn.nil
            go_simp
            refine hK _ _ ?_
            clear hK K
            refine wpAnyIn_done (by kernel_rfl) ?_ _
            exact HX.out
          refine AllReadyIn.cons rfl (fun K hK => ?_) ?_
          · go_simp
            refine hK _ _ ?_
            clear hK K
            refine wpAnyIn_ready (rs := [0, 3]) (by kernel_rfl) (by simp) ?_
            refine AllReadyIn.cons rfl (fun K hK => ?_) ?_
            · go_simp
              refine hK _ _ ?_
              clear hK K
              refine wpAnyIn_ready (rs := [3]) (by kernel_rfl) (by simp) ?_
              refine AllReadyIn.cons rfl (fun K hK => ?_) AllReadyIn.nil
              go_simp
              refine ⟨trivial, (CallsIn.inRound l (callsIn_wide.2 (HG.out _ ((Only.refl [] W3).drewN 1)))).mono ?_⟩
              rintro e W2 ⟨rfl, hO⟩
              obtain ⟨c3, c4, g2, cap2, w3, hrun, d1, d2, HX⟩ := HR.out W2 (((Only.refl [] W3).drewN 1).trans hO)
              clear hO
              refine hK _ _ ?_
              clear hK K
              refine wpAnyIn_ready (rs := [4]) (by kernel_rfl) (by simp) ?_
              refine AllReadyIn.cons rfl (fun K hK => ?_) AllReadyIn.nil
              go_simp
              refine hK _ _ ?_
              clear hK K
              refine wpAnyIn_ready (rs := [5]) (by kernel_rfl) (by simp) ?_
              refine AllReadyIn.cons rfl (fun K hK => ?_) AllReadyIn.nil
              go_simp
              refine hK _ _ ?_
              clear hK K
              refine wpAnyIn_ready (rs := [6]) (by kernel_rfl) (by simp) ?_
              refine AllReadyIn.cons rfl (fun K hK => ?_) AllReadyIn.nil
              refine stepIn_append rfl (.tmp 65) (.tmp 70) 26 rfl hrun ?_
              refine hK _ _ ?_
              clear hK K
              simp only [Act.put, List.setIfInBounds_toArray, List.set_cons_zero, List.set_cons_succ]
              refine wpAnyIn_ready (rs := [7]) (by kernel_rfl) (by simp) ?_
              refine AllReadyIn.cons rfl (fun K hK => ?_) AllReadyIn.nil
              go_simp
              refine hK _ _ ?_
              clear hK K
              refine wpAnyIn_done (by kernel_rfl) ?_ _
              exact HX.out
            refine AllReadyIn.cons rfl (fun K hK => ?_) AllReadyIn.nil
            go_simp
            refine ⟨trivial, (CallsIn.inRound l (callsIn_wide.2 (HG.out _ ((Only.refl [] W3).drewN 1)))).mono ?_⟩
            rintro e W2 ⟨rfl, hO⟩
            obtain ⟨c3, c4, g2, cap2, w3, hrun, d1, d2, HX⟩ := HR.out W2 (((Only.refl [] W3).drewN 1).trans hO)
            clear hO
            refine hK _ _ ?_
            clear hK K
            refine wpAnyIn_ready (rs := [0, 4]) (by kernel_rfl) (by simp) ?_
            refine AllReadyIn.cons rfl (fun K hK => ?_) ?_
            · go_simp
              refine hK _ _ ?_
              clear hK K
              refine wpAnyIn_ready (rs := [4]) (by kernel_rfl) (by simp) ?_
              refine AllReadyIn.cons rfl (fun K hK => ?_) AllReadyIn.nil
              go_simp
              refine hK _ _ ?_
              clear hK K
              refine wpAnyIn_ready (rs := [5]) (by kernel_rfl) (by simp) ?_
              refine AllReadyIn.cons rfl (fun K hK => ?_) AllReadyIn.nil
              go_simp
              refine hK _ _ ?_
              clear hK K
              refine wpAnyIn_ready (rs := [6]) (by kernel_rfl) (by simp) ?_
              refine AllReadyIn.cons rfl (fun K hK => ?_) AllReadyIn.nil
              refine stepIn_append rfl (.tmp 65) (.tmp 70) 26 rfl hrun ?_
              refine hK _ _ ?_
              clear hK K
              simp only [Act.put, List.setIfInBounds_toArray, List.set_cons_zero, List.set_cons_succ]
              refine wpAnyIn_ready (rs := [7]) (by kernel_rfl) (by simp) ?_
              refine AllReadyIn.cons rfl (fun K hK => ?_) AllReadyIn.nil
              go_simp
              refine hK _ _ ?_
              clear hK K
              refine wpAnyIn_done (by kernel_rfl) ?_ _
              exact HX.out
            refine AllReadyIn.cons rfl (fun K hK => ?_) AllReadyIn.nil
            go_simp
            refine hK _ _ ?_
            clear hK K
            refine wpAnyIn_ready (rs := [0, 5]) (by kernel_rfl) (by simp) ?_
            refine AllReadyIn.cons rfl (fun K hK => ?_) ?_
            · go_simp
              refine hK _ _ ?_
              clear hK K
              refine wpAnyIn_ready (rs := [5]) (by kernel_rfl) (by simp) ?_
              refine AllReadyIn.cons rfl (fun K hK => ?_) AllReadyIn.nil
              go_simp
              refine hK _ _ ?_
              clear hK K
              refine wpAnyIn_ready (rs := [6]) (by kernel_rfl) (by simp) ?_
              refine AllReadyIn.cons rfl (fun K hK => ?_) AllReadyIn.nil
              refine stepIn_append rfl (.tmp 65) (.tmp 70) 26 rfl hrun ?_
              refine hK _ _ ?_
              clear hK K
              simp only [Act.put, List.setIfInBounds_toArray, List.set_cons_zero, List.set_cons_succ]
              refine wpAnyIn_ready (rs := [7]) (by kernel_rfl) (by simp) ?_
              refine AllReadyIn.cons rfl (fun K hK => ?_) AllReadyIn.nil
              go_simp
              refine hK _ _ ?_
              clear hK K
              refine wpAnyIn_done (by kernel_rfl) ?_ _
              exact HX.out
            refine AllReadyIn.cons rfl (fun K hK => ?_) AllReadyIn.nil
            go_simp
            refine hK _ _ ?_
            clear hK K
            refine wpAnyIn_ready (rs := [0]) (by kernel_rfl) (by simp) ?_
            refine AllReadyIn.cons rfl (fun K hK => ?_) AllReadyIn.nil
            go_simp
            refine hK _ _ ?_
            clear hK K
            refine wpAnyIn_ready (rs := [6]) (by kernel_rfl) (by simp) ?_
            refine AllReadyIn.cons rfl (fun K hK => ?_) AllReadyIn.nil
            refine stepIn_append rfl (.tmp 65) (.tmp 70) 26 rfl hrun ?_
            refine hK _ _ ?_
            clear hK K
            simp only [Act.put, List.setIfInBounds_toArray, List.set_cons_zero, List.set_cons_succ]
            refine wpAnyIn_ready (rs := [7]) (by kernel_rfl) (by simp) ?_
            refine AllReadyIn.cons rfl (fun K hK => ?_) AllReadyIn.nil
            go_simp
            refine hK _ _ ?_
            clear hK K
            refine wpAnyIn_done (by kernel_rfl) ?_ _
            exact HX.out
          refine AllReadyIn.cons rfl (fun K hK => ?_) AllReadyIn.nil
          go_simp
          refine ⟨trivial, (CallsIn.inRound l (callsIn_wide.2 (HG.out _ ((Only.refl [] W3).drewN 1)))).mono ?_⟩
          rintro e W2 ⟨rfl, hO⟩
          obtain ⟨c3, c4, g2, cap2, w3, hrun, d1, d2, HX⟩ := HR.out W2 (((Only.refl [] W3).drewN 1).trans hO)
          clear hO
          refine hK _ _ ?_
          clear hK K
          refine wpAnyIn_ready (rs := [0, 1]) (by kernel_rfl) (by simp) ?_
          refine AllReadyIn.cons rfl (fun K hK => ?_) ?_
          · go_simp
            refine hK _ _ ?_
            clear hK K
            refine wpAnyIn_ready (rs := [1]) (by kernel_rfl) (by simp) ?_
            refine AllReadyIn.cons rfl (fun K hK => ?_) AllReadyIn.nil
            go_simp
            refine hK _ _ ?_
            clear hK K
            refine wpAnyIn_ready (rs := [4]) (by kernel_rfl) (by simp) ?_
            refine AllReadyIn.cons rfl (fun K hK => ?_) AllReadyIn.nil
            go_simp
            refine hK _ _ ?_
            clear hK K
            refine wpAnyIn_ready (rs := [5]) (by kernel_rfl) (by simp) ?_
            refine AllReadyIn.cons rfl (fun K hK => ?_) AllReadyIn.nil
            go_simp
            refine hK _ _ ?_
            clear hK K
            refine wpAnyIn_ready (rs := [6]) (by kernel_rfl) (by simp) ?_
            refine AllReadyIn.cons rfl (fun K hK => ?_) AllReadyIn.nil
            refine stepIn_append rfl (.tmp 65) (.tmp 70) 26 rfl hrun ?_
            refine hK _ _ ?_
            clear hK K
            simp only [Act.put, List.setIfInBounds_toArray, List.set_cons_zero, List.set_cons_succ]
            refine wpAnyIn_ready (rs := [7]) (by kernel_rfl) (by simp) ?_
            refine AllReadyIn.cons rfl (fun K hK => ?_) AllReadyIn.nil
            go_simp
            refine hK _ _ ?_
            clear hK K
            refine wpAnyIn_done (by kernel_rfl) ?_ _
            exact HX.out
          refine AllReadyIn.cons rfl (fun K hK => ?_) AllReadyIn.nil
          go_simp
          refine hK _ _ ?_
          clear hK K
          refine wpAnyIn_ready (rs := [0, 4]) (by kernel_rfl) (by simp) ?_
          refine AllReadyIn.cons rfl (fun K hK => ?_) ?_
          · go_simp
            refine hK _ _ ?_
            clear hK K
            refine wpAnyIn_ready (rs := [4]) (by kernel_rfl) (by simp) ?_
            refine AllReadyIn.cons rfl (fun K hK => ?_) AllReadyIn.nil
            go_simp
            refine hK _ _ ?_
            clear hK K
            refine wpAnyIn_ready (rs := [5]) (by kernel_rfl) (by simp) ?_
            refine AllReadyIn.cons rfl (fun K hK => ?_) AllReadyIn.nil
            go_simp
            refine hK _ _ ?_
            clear hK K
            refine wpAnyIn_ready (rs := [6]) (by kernel_rfl) (by simp) ?_
            refine AllReadyIn.cons rfl (fun K hK => ?_) AllReadyIn.nil
            refine stepIn_append rfl (.tmp 65) (.tmp 70) 26 rfl hrun ?_
            refine hK _ _ ?_
            clear hK K
            simp only [Act.put, List.setIfInBounds_toArray, List.set_cons_zero, List.set_cons_succ]
            refine wpAnyIn_ready (rs := [7]) (by kernel_rfl) (by simp) ?_
            refine AllReadyIn.cons rfl (fun K hK => ?_) AllReadyIn.nil
            go_simp
            refine hK _ _ ?_
            clear hK K
            refine wpAnyIn_done (by kernel_rfl) ?_ _
            exact HX.out
          refine AllReadyIn.cons rfl (fun K hK => ?_) AllReadyIn.nil
          go_simp
          refine hK _ _ ?_
          clear hK K
          refine wpAnyIn_ready (rs := [0, 5]) (by kernel_rfl) (by simp) ?_
          refine AllReadyIn.cons rfl (fun K hK => ?_) ?_
          · go_simp
            refine hK _ _ ?_
            clear hK K
            refine wpAnyIn_ready (rs := [5]) (by kernel_rfl) (by simp) ?_
            refine AllReadyIn.cons rfl (fun K hK => ?_) AllReadyIn.nil
            go_simp
            refine hK _ _ ?_
            clear hK K
            refine wpAnyIn_ready (rs := [6]) (by kernel_rfl) (by simp) ?_
            refine AllReadyIn.cons rfl (fun K hK => ?_) AllReadyIn.nil
            refine stepIn_append rfl (.tmp 65) (.tmp 70) 26 rfl hrun ?_
            refine hK _ _ ?_
            clear hK K
            simp only [Act.put, List.setIfInBounds_toArray, List.set_cons_zero, List.set_cons_succ]
            refine wpAnyIn_ready (rs := [7]) (by kernel_rfl) (by simp) ?_
            refine AllReadyIn.cons rfl (fun K hK => ?_) AllReadyIn.nil
            go_simp
            refine hK _ _ ?_
            clear hK K
            refine wpAnyIn_done (by kernel_rfl) ?_ _
            exact HX.out
          refine AllReadyIn.cons rfl (fun K hK => ?_) AllReadyIn.nil
          go_simp
          refine hK _ _ ?_
          clear hK K
          refine wpAnyIn_ready (rs := [0]) (by kernel_rfl) (by simp) ?_
          refine AllReadyIn.cons rfl (fun K hK => ?_) AllReadyIn.nil
          go_simp
          refine hK _ _ ?_
          clear hK K
          refine wpAnyIn_ready (rs := [6]) (by kernel_rfl) (by simp) ?_
          refine AllReadyIn.cons rfl (fun K hK => ?_) AllReadyIn.nil
          refine stepIn_append rfl (.tmp 65) (.tmp 70) 26 rfl hrun ?_
          refine hK _ _ ?_
          clear hK K
          simp only [Act.put, List.setIfInBounds_toArray, List.set_cons_zero, List.set_cons_succ]
          refine wpAnyIn_ready (rs := [7]) (by kernel_rfl) (by simp) ?_
          refine AllReadyIn.cons rfl (fun K hK => ?_) AllReadyIn.nil
          go_simp
          refine hK _ _ ?_
          clear hK K
          refine wpAnyIn_done (by kernel_rfl) ?_ _
          exact HX.out
  case done =>
    rintro D W4 hD ⟨F', vl, h⟩ hK
    have cL := h.box.cell
    dsimp only at cL
    have HFin := Lib.hid (And.intro (ownsRow_putObj h.lev (.deferred none) hK rfl) ((KeepC.put (b := w.heap.size) (.deferred none) (by omega) hK rfl).onto h.tal.only (Nat.le_refl _)))
    clear h
    gi_wp2
    refine ⟨by simp, .inl ⟨_, _, rfl, run_takeDeferred hK, ?_⟩⟩
    refine ⟨_, results_tmp2 rfl _ _ _, .inr ⟨rfl, o, vl, HW.out, rfl, ?_, HFin.out.2⟩⟩
    rw [Int.toNat_natCast]
    exact HFin.out.1

end Go.Proofs.Ytipgbbhgmoehfaa

/-
  Chapter 27: the law's example.
-/
namespace Go.Proofs.Ytipgbbhgmoehfaa
open Go.RowKit
attribute [local go_sem] Oper.semAt_some
set_option linter.unusedSimpArgs false
set_option linter.unusedSectionVars false

theorem trips_lit {w : World} {b : Nat} {cs : Array Value} {T : TypeId} (h : w.heap[b]? = some (.cells cs T (0, 0))) {n : Nat} {u v x : Nat → Int} (hc : ∀ j, j < n → cs[j * 3]? = some (.int .i64 (u j)) ∧ cs[j * 3 + 1]? = some (.int .i64 (v j)) ∧ cs[j * 3 + 2]? = some (.int .i64 (x j)))
    (hwf : ∀ j, j < n → (Lit.int .i64 (u j)).wf = true ∧ (Lit.int .i64 (v j)).wf = true ∧ (Lit.int .i64 (x j)).wf = true) (hn : n ≤ maxLen) : EdgesIn w (some ⟨b, 0, none⟩) n u v x :=
  ⟨fun _ => ⟨b, 0, rfl, heap_lt h, fun j hj => by
    simp only [Nat.zero_add]
    obtain ⟨h0, h1, h2⟩ := hc j hj
    exact ⟨cell_of_heap h h0, cell_of_heap h h1, cell_of_heap h h2⟩⟩, hwf, hn⟩
theorem ints_lit {w : World} {b : Nat} {cs : Array Value} {T : TypeId} {k : IntKind} (h : w.heap[b]? = some (.cells cs T (0, 0))) {n : Nat} {f : Nat → Int} (hc : ∀ j, j < n → cs[j]? = some (.int k (f j))) (hwf : ∀ j, j < n → (Lit.int k (f j)).wf = true) (hn : n ≤ maxLen) : IntsIn w k (some ⟨b, 0, none⟩) n f :=
  ⟨fun _ => ⟨b, 0, rfl, heap_lt h, fun j hj => by rw [Nat.zero_add]; exact cell_of_heap h (hc j hj)⟩, hwf, hn⟩
def exU : Nat → Int := fun j => [0, 2, 1, 0].getD j 0
def exV : Nat → Int := fun j => [1, 3, 2, 2].getD j 0
def exX : Nat → Int := fun j => [5, 1, 5, 9].getD j 0
def exD : Nat → Nat := fun j => [3, 1, 0].getD j 0
def exO : Nat → Nat := fun j => [1, 0, 2, 3].getD j 0
theorem lt4 {j : Nat} (h : j < 4) : j = 0 ∨ j = 1 ∨ j = 2 ∨ j = 3 := by omega
theorem ex_good : GCode 4 4 exU exV 0 := by
  refine .inr ⟨by omega, .inr ⟨fun j hj => ?_, rfl⟩⟩
  unfold GoodE InE
  rcases lt4 hj with rfl | rfl | rfl | rfl <;> decide
theorem ex_ordered : Ordered 4 3 (fun j => (j : Int)) := ⟨fun i hi => by dsimp only; omega, fun i hi k hk => by dsimp only; omega⟩
theorem ex_a : ∀ j, j < 4 → rA 4 (fun j => (exU j).toNat) (fun j => (exV j).toNat) (fun j => ((j : Int)).toNat) one j = [1, 2, 2, 4].getD j 0 ∧ rB 4 (fun j => (exU j).toNat) (fun j => (exV j).toNat) (fun j => ((j : Int)).toNat) j = [4, 3, 2, 1].getD j 0 ∧ rC 4 (fun j => (exU j).toNat) (fun j => (exV j).toNat) (fun j => ((j : Int)).toNat) one j = [4, 6, 8, 16].getD j 0 := by
  intro j hj
  rcases lt4 hj with rfl | rfl | rfl | rfl <;> decide
theorem ex_b : ∀ j, j < 5 → rA 4 (fun j => (exU j).toNat) (fun j => (exV j).toNat) (sh 4 exD 3) one j = [1, 2, 3, 4, 4].getD j 0 ∧ rB 4 (fun j => (exU j).toNat) (fun j => (exV j).toNat) (sh 4 exD 3) j = [4, 3, 2, 1, 1].getD j 0 ∧ rC 4 (fun j => (exU j).toNat) (fun j => (exV j).toNat) (sh 4 exD 3) one j = [4, 6, 10, 16, 16].getD j 0 := by
  intro j hj
  have : j = 0 ∨ j = 1 ∨ j = 2 ∨ j = 3 ∨ j = 4 := by omega
  rcases this with rfl | rfl | rfl | rfl | rfl <;> decide
theorem ex_jump {f : Nat → Int} (h : ∀ j, j < 4 → f j = [1, 2, 2, 4].getD j 0) : JumpIs 4 f 3 2 := by
  have h0 : f 0 = 1 := h 0 (by omega)
  have h1 : f 1 = 2 := h 1 (by omega)
  have h2 : f 2 = 2 := h 2 (by omega)
  have h3 : f 3 = 4 := h 3 (by omega)
  refine .inl ⟨fun j hj => ?_, ?_⟩
  · rcases lt4 hj with rfl | rfl | rfl | rfl <;> omega
  · simp [jmp, h0, h1, h2, h3]
theorem ex_order {o : Nat → Nat} (h : ByWeight 4 exX o) : o 0 = 1 ∧ o 1 = 0 ∧ o 2 = 2 ∧ o 3 = 3 := by
  have key : ∀ a b c d : Fin 4, (exX a < exX b ∨ (exX a = exX b ∧ a < b)) → (exX b < exX c ∨ (exX b = exX c ∧ b < c)) → (exX c < exX d ∨ (exX c = exX d ∧ c < d)) → a = 1 ∧ b = 0 ∧ c = 2 ∧ d = 3 := by decide
  have h0 := h.lt (i := 0) (by omega)
  have h1 := h.lt (i := 1) (by omega)
  have h2 := h.lt (i := 2) (by omega)
  have h3 := h.lt (i := 3) (by omega)
  obtain ⟨k0, k1, k2, k3⟩ := key ⟨o 0, h0⟩ ⟨o 1, h1⟩ ⟨o 2, h2⟩ ⟨o 3, h3⟩ (h.up 0 1 (by omega) (by omega)) (h.up 1 2 (by omega) (by omega)) (h.up 2 3 (by omega) (by omega))
  exact ⟨congrArg Fin.val k0, congrArg Fin.val k1, congrArg Fin.val k2, congrArg Fin.val k3⟩
theorem ex_ends {o : Nat → Nat} (h : ByWeight 4 exX o) : ends 4 exX o 4 = [1, 3, 4] := by
  obtain ⟨h0, h1, h2, h3⟩ := ex_order h
  simp [ends, isEnd, h0, h1, h2, h3]
  decide
theorem labK_congr {p q o o' : Nat → Nat} {k : Nat} (h : ∀ j, j < k → o j = o' j) : labK p q o k = labK p q o' k := by
  unfold labK eprs
  congr 1
  refine List.map_congr_left fun j hj => ?_
  unfold epr
  rw [h j (List.mem_range.1 hj)]
theorem ex_lev {o : Nat → Nat} (h : ByWeight 4 exX o) : ∀ i, i < 4 → (levW 4 4 (fun j => (exU j).toNat) (fun j => (exV j).toNat) o exX 4)[4 + i]? = some (.int .i64 ([5, 4, 1, 16].getD i 0)) := by
  obtain ⟨h0, h1, h2, h3⟩ := ex_order h
  have e : labK (fun j => (exU j).toNat) (fun j => (exV j).toNat) o 3 = labK (fun j => (exU j).toNat) (fun j => (exV j).toNat) exO 3 := labK_congr fun j hj => by
    have : j = 0 ∨ j = 1 ∨ j = 2 := by omega
    rcases this with rfl | rfl | rfl <;> first | exact h0 | exact h1 | exact h2
  intro i hi
  unfold levW
  rw [ex_ends h]
  have e3 : exX (o (3 - 1)) = 5 := by rw [show 3 - 1 = 2 from rfl, h2]; decide
  have eA : rA 4 (fun j => (exU j).toNat) (fun j => (exV j).toNat) o one 3 = 4 := by unfold rA; rw [e]; decide
  have eB : rB 4 (fun j => (exU j).toNat) (fun j => (exV j).toNat) o 3 = 1 := by unfold rB; rw [e]; decide
  have eC : rC 4 (fun j => (exU j).toNat) (fun j => (exV j).toNat) o one 3 = 16 := by unfold rC; rw [e]; decide
  simp only [levV, List.flatMap_cons, List.flatMap_nil]
  rcases lt4 hi with rfl | rfl | rfl | rfl
  · simp [h2]; decide
  · simpa using eA
  · simpa using eB
  · simpa using eC
theorem level_neq (a1 b1 c1 d1 a2 b2 c2 d2 : Int) (w : World) : (binOp .neq 41 (.agg #[.int .i64 a1, .int .i64 b1, .int .i64 c1, .int .i64 d1]) (.agg #[.int .i64 a2, .int .i64 b2, .int .i64 c2, .int .i64 d2])).run Try.prog w = .ok (.bool (!decide (a1 = a2 ∧ b1 = b2 ∧ c1 = c2 ∧ d1 = d2))) w := by
  have yi3 := Try.underlying3
  have yi2 := Try.underlying2
  have hS : Try.prog.underlying 41 = some (.struct (Try.prog.fieldsOf 41)) := by kernel_rfl
  have hp : Try.prog.stoodInHeld 41 = false := by kernel_rfl
  rw [run_neq_struct, show (10000 : Nat) = 9999 + 1 from rfl, run_equalIn_agg w 9999 41 _ _ hS hp]
  simp only [Program.fieldsOf, Try.underlying41]
  go_simp
  by_cases h1 : a1 = a2 <;> by_cases h2 : b1 = b2 <;> by_cases h3 : c1 = c2 <;> by_cases h4 : d1 = d2 <;> simp [h1, h2, h3, h4]

end Go.Proofs.Ytipgbbhgmoehfaa

/-
  Chapter 27: the law's example holds.
-/
namespace Go.Proofs.Ytipgbbhgmoehfaa
open Go.RowKit
attribute [local go_sem] Oper.semAt_some
set_option linter.unusedSimpArgs false
set_option linter.unusedSectionVars false

def exCells : Array Value := #[.int .i64 0, .int .i64 1, .int .i64 5, .int .i64 2, .int .i64 3, .int .i64 1, .int .i64 1, .int .i64 2, .int .i64 5, .int .i64 0, .int .i64 2, .int .i64 9]
theorem ex_wf {f : Nat → Int} {n : Nat} (h : ∀ j, j < n → 0 ≤ f j ∧ f j ≤ 100) : ∀ j, j < n → (Lit.int .i64 (f j)).wf = true := fun j hj => wf_of (by have := h j hj; omega) (by have := h j hj; omega)
theorem ex_edges {w : World} {b : Nat} (h : w.heap[b]? = some (.cells exCells 43 (0, 0))) : EdgesIn w (some ⟨b, 0, none⟩) 4 exU exV exX := by
  refine trips_lit h (fun j hj => ?_) (fun j hj => ?_) (by unfold maxLen; omega)
  · rcases lt4 hj with rfl | rfl | rfl | rfl <;> exact ⟨rfl, rfl, rfl⟩
  · rcases lt4 hj with rfl | rfl | rfl | rfl <;> decide
theorem lt3 {j : Nat} (h : j < 3) : j = 0 ∨ j = 1 ∨ j = 2 := by omega
theorem ex_ints {w : World} {b : Nat} (h : w.heap[b]? = some (.cells #[.int .i64 0, .int .i64 1, .int .i64 2] 3 (0, 0))) : IntsIn w .i64 (some ⟨b, 0, none⟩) 3 (fun j => (j : Int)) := by
  refine ints_lit h (fun j hj => ?_) (fun j hj => ?_) (by unfold maxLen; omega)
  · rcases lt3 hj with rfl | rfl | rfl <;> rfl
  · rcases lt3 hj with rfl | rfl | rfl <;> decide
theorem ex_draws {w : World} {b : Nat} {T : TypeId} (h : w.heap[b]? = some (.cells #[.int .u64 3, .int .u64 1, .int .u64 0] T (0, 0))) : IntsIn w .u64 (some ⟨b, 0, none⟩) 3 (fun j => (exD j : Int)) := by
  refine ints_lit h (fun j hj => ?_) (fun j hj => ?_) (by unfold maxLen; omega)
  · rcases lt3 hj with rfl | rfl | rfl <;> rfl
  · rcases lt3 hj with rfl | rfl | rfl <;> decide
theorem EdgesIn.congr {w : World} {A : Option Addr} {n : Nat} {u v x u' v' x' : Nat → Int} (h : EdgesIn w A n u v x) (e : ∀ j, j < n → u j = u' j ∧ v j = v' j ∧ x j = x' j) : EdgesIn w A n u' v' x' :=
  ⟨fun h0 => by
    obtain ⟨b, off, hA, hb, hc⟩ := h.row h0
    exact ⟨b, off, hA, hb, fun j hj => by
      obtain ⟨e1, e2, e3⟩ := e j hj
      rw [← e1, ← e2, ← e3]
      exact hc j hj⟩, fun j hj => by
    obtain ⟨e1, e2, e3⟩ := e j hj
    rw [← e1, ← e2, ← e3]
    exact h.wf j hj, h.len⟩
def aA : Nat → Int := fun j => [1, 2, 2, 4].getD j 0
def aB : Nat → Int := fun j => [4, 3, 2, 1].getD j 0
def aC : Nat → Int := fun j => [4, 6, 8, 16].getD j 0
def bA : Nat → Int := fun j => [1, 2, 3, 4, 4].getD j 0
def bB : Nat → Int := fun j => [4, 3, 2, 1, 1].getD j 0
def bC : Nat → Int := fun j => [4, 6, 10, 16, 16].getD j 0
theorem lt5 {j : Nat} (h : j < 5) : j = 0 ∨ j = 1 ∨ j = 2 ∨ j = 3 ∨ j = 4 := by omega
theorem wf_a : ∀ j, j < 4 → (Lit.int .i64 (aA j)).wf = true ∧ (Lit.int .i64 (aB j)).wf = true ∧ (Lit.int .i64 (aC j)).wf = true := by
  intro j hj
  rcases lt4 hj with rfl | rfl | rfl | rfl <;> decide
theorem wf_b : ∀ j, j < 5 → (Lit.int .i64 (bA j)).wf = true ∧ (Lit.int .i64 (bB j)).wf = true ∧ (Lit.int .i64 (bC j)).wf = true := by
  intro j hj
  rcases lt5 hj with rfl | rfl | rfl | rfl | rfl <;> decide
theorem rows_a {w w' : World} {vo : Value} (h : RowsAt w w' 4 (fun j => (exU j).toNat) (fun j => (exV j).toNat) (fun j => ((j : Int)).toNat) 3 vo) : ∃ A c, vo = .slice A 4 c ∧ EdgesIn w' A 4 aA aB aC := by
  obtain ⟨A, c, e, hE⟩ := trips_own h.1 fun j hj => by
    obtain ⟨e1, e2, e3⟩ := ex_a j hj
    rw [e1, e2, e3]
    exact wf_a j hj
  exact ⟨A, c, e, hE.congr ex_a⟩
theorem rows_b {w w' : World} {vo : Value} (h : RowsAt w w' 4 (fun j => (exU j).toNat) (fun j => (exV j).toNat) (sh 4 exD (4 - 1)) 4 vo) : ∃ A c, vo = .slice A 5 c ∧ EdgesIn w' A 5 bA bB bC := by
  obtain ⟨A, c, e, hE⟩ := trips_own h.1 fun j hj => by
    obtain ⟨e1, e2, e3⟩ := ex_b j hj
    rw [e1, e2, e3]
    exact wf_b j hj
  exact ⟨A, c, e, hE.congr ex_b⟩
def aCells : Array Value := #[.int .i64 1, .int .i64 4, .int .i64 4, .int .i64 2, .int .i64 3, .int .i64 6, .int .i64 2, .int .i64 2, .int .i64 8, .int .i64 4, .int .i64 1, .int .i64 16]
def bCells : Array Value := #[.int .i64 1, .int .i64 4, .int .i64 4, .int .i64 2, .int .i64 3, .int .i64 6, .int .i64 3, .int .i64 2, .int .i64 10, .int .i64 4, .int .i64 1, .int .i64 16, .int .i64 4, .int .i64 1, .int .i64 16]
theorem ex_ra {w : World} {b : Nat} (h : w.heap[b]? = some (.cells aCells 39 (0, 0))) : EdgesIn w (some ⟨b, 0, none⟩) 4 aA aB aC := by
  refine trips_lit h (fun j hj => ?_) wf_a (by unfold maxLen; omega)
  rcases lt4 hj with rfl | rfl | rfl | rfl <;> exact ⟨rfl, rfl, rfl⟩
theorem ex_rb {w : World} {b : Nat} (h : w.heap[b]? = some (.cells bCells 39 (0, 0))) : EdgesIn w (some ⟨b, 0, none⟩) 5 bA bB bC := by
  refine trips_lit h (fun j hj => ?_) wf_b (by unfold maxLen; omega)
  rcases lt5 hj with rfl | rfl | rfl | rfl | rfl <;> exact ⟨rfl, rfl, rfl⟩
theorem lev_cells {w : World} {base : Nat} {vo : Value} {o : Nat → Nat} (hW : ByWeight 4 exX o) (h : w.ownsRow base 41 4 vo (ends 4 exX o 4).length (levW (4 : Int).toNat 4 (fun j => (exU j).toNat) (fun j => (exV j).toNat) o exX 4)) :
    ∃ g c, vo = .slice (some ⟨g, 0, none⟩) 3 c ∧ g < w.heap.size ∧ w.cell? ⟨g, 4, none⟩ = some (.int .i64 5) ∧ w.cell? ⟨g, 4 + 1, none⟩ = some (.int .i64 4) ∧ w.cell? ⟨g, 4 + 2, none⟩ = some (.int .i64 1) ∧ w.cell? ⟨g, 4 + 3, none⟩ = some (.int .i64 16) := by
  rw [ex_ends hW] at h
  obtain ⟨hl, ⟨_, h0⟩ | ⟨g, cap, cur, rfl, hg, hh, hn, hc, hs, ht⟩⟩ := h
  · cases h0
  have e : ∀ i, i < 4 → w.cell? ⟨g, 4 + i, none⟩ = some (.int .i64 ([5, 4, 1, 16].getD i 0)) := fun i hi => by
    have := ex_lev hW i hi
    rw [show levW 4 4 (fun j => (exU j).toNat) (fun j => (exV j).toNat) o exX 4 = levW (4 : Int).toNat 4 (fun j => (exU j).toNat) (fun j => (exV j).toNat) o exX 4 from rfl, ← ht, List.getElem?_take, if_pos (by simp; omega)] at this
    exact cell_of_heap hh (by simpa using this)
  exact ⟨g, cap, rfl, heap_lt hh, e 0 (by omega), e 1 (by omega), e 2 (by omega), e 3 (by omega)⟩
set_option maxRecDepth 100000 in
set_option maxHeartbeats 4000000 in
theorem sworks_any (w : World) : Calls Try.prog 13 #[] w fun e w' => e = .returned (.bool true) ∧ Only [] w w' := by
  obtain ⟨b, hb⟩ : ∃ b, w.heap.size = b := ⟨_, rfl⟩
  obtain ⟨w1, hw1⟩ : ∃ w1, w.alloc (.cells exCells 43) = w1 := ⟨_, rfl⟩
  have hO1 : Only [] w w1 := hw1 ▸ (Only.refl [] w).alloc _
  have hE1 : EdgesIn w1 (some ⟨b, 0, none⟩) 4 exU exV exX := by
    rw [← hb, ← hw1]
    exact ex_edges (heap_alloc_new w _)
  have hs1 : w1.heap.size = b + 1 := by rw [← hw1, World.size_alloc, hb]
  obtain ⟨w2, hw2⟩ : ∃ w2, w1.alloc (.cells #[.int .i64 0, .int .i64 1, .int .i64 2] 3) = w2 := ⟨_, rfl⟩
  have hO2 : Only [] w1 w2 := hw2 ▸ (Only.refl [] w1).alloc _
  have hI2 : IntsIn w2 .i64 (some ⟨b + 1, 0, none⟩) 3 (fun j => (j : Int)) := by
    rw [← hs1, ← hw2]
    exact ex_ints (heap_alloc_new w1 _)
  have CR := Lib.hid (SRows_any 4 (some ⟨b, 0, none⟩) (some ⟨b + 1, 0, none⟩) 4 4 3 3 exU exV exX (fun j => (j : Int)) w2 (hE1.only hO2) hI2 0 ex_good true ⟨fun _ => ex_ordered, fun _ => rfl⟩ (by omega))
  have HE1 := Lib.hid hE1
  have HO2 := Lib.hid (hO1.trans hO2)
  have HE2 := Lib.hid (hE1.only hO2)
  unfold exCells at hw1
  clear hE1 hO1 hO2 hI2
  go_enter Try.func13, Try.ntmps13
  go_wp2_with fail
  refine CR.out.mono ?_
  clear hw1 hw2 hb hs1
  rintro e w3 (⟨h, _⟩ | ⟨_, h, _⟩ | ⟨_, _, va, rfl, hr⟩)
  · exact absurd rfl h
  · cases h
  have hO3 := hr.2
  obtain ⟨Aa, ca, rfl, hA⟩ := rows_a hr
  obtain ⟨w4, hw4⟩ : ∃ w4, w3.alloc (.cells #[.int .u64 3, .int .u64 1, .int .u64 0] 94) = w4 := ⟨_, rfl⟩
  have hO4 : Only [] w3 w4 := hw4 ▸ (Only.refl [] w3).alloc _
  have hD4 : IntsIn w4 .u64 (some ⟨w3.heap.size, 0, none⟩) 3 (fun j => (exD j : Int)) := by
    rw [← hw4]
    exact ex_draws (heap_alloc_new w3 _)
  have CB := Lib.hid (SRandom_any 4 (some ⟨b, 0, none⟩) (some ⟨w3.heap.size, 0, none⟩) 4 4 3 3 exU exV exX (fun j => (exD j : Int)) exD w4 (HE2.out.only (hO3.trans hO4)) hD4 (fun _ _ => rfl) (fun j hj => by rcases lt3 hj with rfl | rfl | rfl <;> decide) 0 ex_good)
  have HE4 := Lib.hid (HE2.out.only (hO3.trans hO4))
  have HA4 := Lib.hid (hA.only hO4)
  have HO4 := Lib.hid ((HO2.out.trans hO3).trans hO4)
  clear hr hO3 hA hO4 hD4 CR HE2 HO2 HE1
  go_wp2_with fail
  refine CB.out.mono ?_
  clear hw4
  rintro e w5 (⟨h, _⟩ | ⟨_, h, _⟩ | ⟨_, _, vb, rfl, hr⟩)
  · exact absurd rfl h
  · omega
  have hO5 := hr.2
  obtain ⟨Ab, cb, rfl, hB⟩ := rows_b hr
  have CL := Lib.hid (Levels_any 4 (some ⟨b, 0, none⟩) 4 4 exU exV exX w5 (HE4.out.only hO5) 0 ex_good)
  have HA5 := Lib.hid (HA4.out.only hO5)
  have HB5 := Lib.hid hB
  have HO5 := Lib.hid (HO4.out.trans hO5)
  clear hr hO5 hB CB HE4 HA4 HO4
  go_wp2_with fail
  refine CL.out.mono ?_
  rintro e w6 (⟨h, _⟩ | ⟨_, o, vl, hW, rfl, hown, hO6⟩)
  · exact absurd rfl h
  obtain ⟨g, c, rfl, hg, d0, d1, d2, d3⟩ := lev_cells hW hown
  have CJ := Lib.hid (SJump_any Aa 4 ca aA aB aC w6 (HA5.out.only hO6) (by omega))
  have HD := Lib.hid (And.intro hg (And.intro d0 (And.intro d1 (And.intro d2 d3))))
  have HA6 := Lib.hid (HA5.out.only hO6)
  have HB6 := Lib.hid (HB5.out.only hO6)
  have HO6 := Lib.hid (HO5.out.trans hO6)
  clear hW hown hO6 hg d0 d1 d2 d3 CL HA5 HB5 HO5
  go_wp2_with fail
  refine CJ.out.mono ?_
  rintro e w7 ⟨i, by', rfl, hj, hO7⟩
  obtain ⟨rfl, rfl⟩ := hj.unique (ex_jump fun j _ => rfl)
  obtain ⟨hg, d0, d1, d2, d3⟩ := HD.out
  have keep : ∀ k v, w6.cell? ⟨g, k, none⟩ = some v → w7.cell? ⟨g, k, none⟩ = some v := fun k v h => (World.cell?_of_block (w := w6) (hO7.block g hg (by simp))).trans h
  replace d0 := keep _ _ d0
  replace d1 := keep _ _ d1
  replace d2 := keep _ _ d2
  replace d3 := keep _ _ d3
  have HA7 := Lib.hid (HA6.out.only hO7)
  have HB7 := Lib.hid (HB6.out.only hO7)
  have HO7 := Lib.hid (HO6.out.trans hO7)
  clear hj hO7 keep CJ HD HA6 HB6 HO6 hg
  have ln := fun W => level_neq 5 4 1 16 5 4 1 16 W
  rw [decide_eq_true ⟨rfl, rfl, rfl, rfl⟩] at ln
  go_wp2_with fail
  change Calls _ _ _ (w7.alloc (.cells aCells 39)) _
  have hO8 : Only [] w7 (w7.alloc (.cells aCells 39)) := (Only.refl [] w7).alloc _
  have hL := ex_ra (heap_alloc_new w7 (.cells aCells 39))
  have HO8 := Lib.hid (HO7.out.trans hO8)
  have HB8 := Lib.hid (HB7.out.only hO8)
  refine (lsame_true _ _ 4 _ _ _ _ _ _ (HA7.out.only hO8) hL (by omega)).mono ?_
  clear hO8 hL d0 d1 d2 d3 ln HO7 HB7 HA7
  rintro e w8 ⟨rfl, hO9⟩
  have HO9 := Lib.hid (HO8.out.trans hO9)
  have HB9 := Lib.hid (HB8.out.only hO9)
  clear hO9 HO8 HB8
  go_wp2_with fail
  change Calls _ _ _ (w8.alloc (.cells bCells 39)) _
  have hO8 : Only [] w8 (w8.alloc (.cells bCells 39)) := (Only.refl [] w8).alloc _
  have hL := ex_rb (heap_alloc_new w8 (.cells bCells 39))
  have HO8 := Lib.hid (HO9.out.trans hO8)
  refine (lsame_true _ _ 5 _ _ _ _ _ _ (HB9.out.only hO8) hL (by omega)).mono ?_
  clear hO8 hL HB9 HO9
  rintro e w10 ⟨rfl, hO9⟩
  have HO9 := Lib.hid (HO8.out.trans hO9)
  clear hO9 HO8
  go_wp2_with fail
  go_ret
  exact ⟨rfl, HO9.out⟩

end Go.Proofs.Ytipgbbhgmoehfaa
