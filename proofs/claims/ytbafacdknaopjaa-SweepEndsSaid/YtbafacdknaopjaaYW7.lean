import Derived.Maps.AppendAt
import Derived.Test.YtbafacdknaopjaaYK
import Derived.Test.YtbafacdknaopjaaYI
/-
  sweep: collect, at rows of weights.
-/
namespace Go.Proofs.Ytbafacdknaopjaa.Wd
open Go.RowKit Go.Shelf
attribute [local go_sem] Oper.semAt_some
set_option linter.unusedSimpArgs false
set_option linter.unusedSectionVars false

theorem infoRow : (Try.prog.info? 172).map (fun i => (i.zero, i.size, i.bytes)) = some (some (.agg #[.int .i64 0, .int .i64 0, .int .i64 0]), 3, 24) := by kernel_rfl
theorem cell_three_new (w : World) (x y z : Value) (t : TypeId) : ∀ j u, [x, y, z][j]? = some u → (w.alloc (.cells #[x, y, z] t)).cell? ((⟨w.heap.size, 0, none⟩ : Addr).add j) = some u := by
  intro j u h
  have hh := heap_alloc_new w (.cells #[x, y, z] t)
  have e : ((⟨w.heap.size, 0, none⟩ : Addr).add j) = ⟨w.heap.size, j, none⟩ := by unfold Addr.add; split <;> simp_all
  rw [e]
  exact cell_of_heap hh (by simpa using h)
theorem KeepC.owns {b : Nat} {W W' : World} {base e size n : Nat} {v : Value} {xs : List Value} (k : KeepC b W W') (h : W.ownsRow base e size v n xs) : W'.ownsRow base e size v n xs := by
  obtain ⟨hl, h0 | ⟨g, cap, cur, hv, hg, hh, rest⟩⟩ := h
  · exact ⟨hl, .inl h0⟩
  · exact ⟨hl, .inr ⟨g, cap, cur, hv, hg, k.cells _ _ hh rfl, rest⟩⟩
theorem KeepC.tal {b : Nat} {w W W' : World} {F : List Nat} {A n : Nat} {lab wt : Nat → Nat} (k : KeepC b W W') (h : OwnTal w W F A n lab wt) (hb : w.heap.size ≤ b) : OwnTal w W' F A n lab wt :=
  ⟨h.at_.same fun i hi => by
    obtain ⟨o, h1, h2⟩ := h.at_.cellsF i hi
    exact (k.cells i o h1 h2).trans h1.symm, h.new, k.onto h.only hb⟩

/-- The boxes of the collecting loop. -/
structure Boxes (s A : Nat) (rf : Nat) (E O : Option Addr) (me ce m co : Nat) (W : World) : Prop where
  b0 : Boxed W s 24 (.pointer (some ⟨A, 0, none⟩))
  b1 : ∃ T, T ≠ 172 ∧ Boxed W (s + 1) T (.func (.func rf) #[] #[])
  b4 : Boxed W (s + 4) 24 (.pointer (some ⟨A, 0, none⟩))
  b5 : Boxed W (s + 5) 67 (.slice E me ce)
  b6 : Boxed W (s + 6) 68 (.slice O m co)
theorem Boxes.map {s A rf : Nat} {E O : Option Addr} {me ce m co : Nat} {W W' : World} (h : Boxes s A rf E O me ce m co W) (k : ∀ i cs T f, s ≤ i → i < s + 7 → i ≠ s + 3 → T ≠ 172 → W.heap[i]? = some (.cells cs T f) → W'.heap[i]? = some (.cells cs T f)) : Boxes s A rf E O me ce m co W' := by
  obtain ⟨T, hT, h1⟩ := h.b1
  exact ⟨k _ _ _ _ (by omega) (by omega) (by omega) (by decide) h.b0, ⟨T, hT, k _ _ _ _ (by omega) (by omega) (by omega) hT h1⟩, k _ _ _ _ (by omega) (by omega) (by omega) (by decide) h.b4, k _ _ _ _ (by omega) (by omega) (by omega) (by decide) h.b5, k _ _ _ _ (by omega) (by omega) (by omega) (by decide) h.b6⟩
/-- What the collecting loop keeps: the tally after j unions, r rows. -/
def Coll (w0 : World) (s A n rf : Nat) (E O : Option Addr) (me ce m co : Nat) (wt : Nat → Nat) (lab : Nat → Nat → Nat) (a b c : Nat → Int) (j r : Nat) (W : World) : Prop :=
  ∃ F v, OwnTal w0 W F A n (lab j) wt ∧ (∀ k, k ∈ F → k < s ∨ s + 7 ≤ k) ∧ (∀ g, v.ownBlock = some g → g ∉ F) ∧ Boxed W (s + 3) 169 v ∧ W.ownsRow s 172 3 v r (edgesL a b c r) ∧ Boxes s A rf E O me ce m co W
theorem Coll.calm {w0 : World} {s A n rf : Nat} {E O : Option Addr} {me ce m co : Nat} {wt : Nat → Nat} {lab : Nat → Nat → Nat} {a b c : Nat → Int} {j r z : Nat} {W W' : World} (h : Coll w0 s A n rf E O me ce m co wt lab a b c j r W) (k : KeepC z W W') (hz : w0.heap.size ≤ z) : Coll w0 s A n rf E O me ce m co wt lab a b c j r W' := by
  obtain ⟨F, v, h1, h2, h3, h4, h5, h6⟩ := h
  exact ⟨F, v, k.tal h1 hz, h2, h3, k.cells _ _ h4 rfl, k.owns h5, h6.map fun i cs T f _ _ _ _ hi => k.cells _ _ hi rfl⟩
theorem Coll.union {w0 : World} {s A n rf : Nat} {E O : Option Addr} {me ce m co : Nat} {wt : Nat → Nat} {lab : Nat → Nat → Nat} {a b c : Nat → Int} {j r : Nat} {W : World} (h : Coll w0 s A n rf E O me ce m co wt lab a b c j r W) {x y : Nat} (hx : x < n) (hy : y < n) (hl : lab (j + 1) = uni (lab j) (x, y)) :
    Calls Try.prog 32 #[.pointer (some ⟨A, 0, none⟩), .int .i64 x, .int .i64 y] W fun e w' => (∃ x y, e = .returned (.tuple #[x, y])) ∧ Coll w0 s A n rf E O me ce m co wt lab a b c (j + 1) r w' ∧ KeepsOthers W w' := by
  obtain ⟨F, v, h1, h2, h3, h4, h5, h6⟩ := h
  refine (TUnion h1.at_ x y hx hy).mono ?_
  rintro e w' ⟨rfl, F', ht, ho, hg⟩
  have hb : ∀ i, s ≤ i → i < s + 7 → i ∉ F := fun i hi hi2 hm => by have := h2 i hm; omega
  have hsz : s + 7 ≤ W.heap.size := heap_lt h6.b6
  refine ⟨⟨_, _, rfl⟩, ⟨F', v, ?_, fun k hk => ?_, fun g hv hk => ?_, ?_, ?_, ?_⟩, h1.at_.others ho⟩
  · rw [hl]
    exact h1.step ht ho hg
  · rcases hg k hk with hk | hk
    · exact h2 k hk
    · exact .inr (by omega)
  · obtain ⟨_, ⟨rfl, _⟩ | ⟨g', cap, cur, rfl, _, hh, _⟩⟩ := h5
    · simp [Value.ownBlock] at hv
    · simp [Value.ownBlock] at hv
      subst hv
      rcases hg _ hk with hk | hk
      · exact h3 _ (by simp [Value.ownBlock]) hk
      · have := heap_lt hh; omega
  · exact (ho.block _ (heap_lt h4) (hb _ (by omega) (by omega))).trans h4
  · obtain ⟨hl, h0 | ⟨g, cap, cur, rfl, hg, hh, rest⟩⟩ := h5
    · exact ⟨hl, .inl h0⟩
    · exact ⟨hl, .inr ⟨g, cap, cur, rfl, hg, (ho.block _ (heap_lt hh) (h3 _ (by simp [Value.ownBlock]))).trans hh, rest⟩⟩
  · exact h6.map fun i cs T f hi hi2 _ _ hc => (ho.block _ (heap_lt hc) (hb _ hi hi2)).trans hc

/-- The boxes ahead of the loop. -/
theorem mk_rows (m : Nat) (hm : m ≤ 65536) (w : World) : (Instr.makeSlice 169 (.int .i64 0) (.int .i64 ((m : Int) + 1))).run Try.prog w = .ok (.slice (some ⟨w.heap.size, 0, none⟩) 0 (m + 1)) (w.alloc (.cells (madeCells #[.int .i64 0, .int .i64 0, .int .i64 0] ((m + 1) * 3)) 172)) := by
  obtain ⟨i0, hi, hz0, hz1, hz2⟩ := info_parts infoRow
  have h := run_makeSlice (P := Try.prog) (w := w) 169 172 i0 (.agg #[.int .i64 0, .int .i64 0, .int .i64 0]) Try.underlying169 hi hz0 .i64 .i64 0 ((m + 1 : Nat) : Int) (Int.le_refl _) (by omega) (by rw [hz1]; omega) (by rw [hz2]; omega) (by omega)
  rw [hz1] at h
  exact h

theorem Picked.fact {w W : World} {n me m : Nat} {E O : Option Addr} {u v x fo : Nat → Int} {p q o : Nat → Nat} {s A rf ce co : Nat} (hP : Picked w n me m E O u v x fo p q o) (hO : Only [] w W) (h : Boxes s A rf E O me ce m co W) : StepFact A (s + 4) (s + 5) (s + 6) E O me ce m co u v x fo W :=
  ⟨cell_of_heap (show W.heap[s + 4]? = _ from h.b4) rfl, cell_of_heap (show W.heap[s + 5]? = _ from h.b5) rfl, cell_of_heap (show W.heap[s + 6]? = _ from h.b6) rfl, hP.edges.only hO, hP.order.only hO⟩

def collObjs (s A rf : Nat) (E O : Option Addr) (me ce m co : Nat) (T : TypeId) (cs : Array Value) : List Obj :=
  [.cells #[.pointer (some ⟨A, 0, none⟩)] 24, .cells #[.func (.func rf) #[] #[]] T, .cells cs 172, .cells #[.slice (some ⟨s + 1 + 1, 0, none⟩) 0 (m + 1)] 169,
    .cells #[.pointer (some ⟨A, 0, none⟩)] 24, .cells #[.slice E me ce] 67, .cells #[.slice O m co] 68]
/-- An append as a step of a region that draws, inside a fence. -/
theorem stepIn_append {F : Fence} {n : Nat} {P : Program} {ops : Array Oper} {o : Oper} {a : Act} {w w' : World} {K : Act → World → Prop} {Q : Exit → Act → World → Prop} {E : Prop} {v' : Value} (hg : o.guard = none) (s x : Operand) (t : TypeId)
    (hop : o.op = Op.call { callee := Callee.builtin Builtin.append, args := #[s, x], argTypes := #[t, t] }) (hrun : (Builtin.append_ #[t, t] o.type #[a.eval s, a.eval x]).run P w = .ok v' w') (h : K (a.put o.dst v') w') :
    if Region.wanted o (yielded ops a.tmps) = true then Oper.wpIn F n P o a w K Q else E := by
  rw [if_pos (by simp [Region.wanted, hg])]
  unfold Oper.wpIn
  refine ⟨?_, ?_⟩
  · simp [Oper.about, hop, resolve, Target.leads, Sem.run_pure]
  · rw [Oper.semAt_plain F _ _ (by rw [hop]; intro c hc'; cases hc')]
    simp [execOp, hop, resolve, invoke, builtin, hrun, Result.andThen]
    exact h
theorem KeepsOthers.of_only {W W' : World} (h : Only [] W W') : KeepsOthers W W' := ⟨h.size, fun k o hk _ => (h.block k (Array.getElem?_eq_some_iff.1 hk).1 (by simp)).trans hk⟩
theorem coll_start {w0 w : World} {F : List Nat} {A n rf : Nat} {E O : Option Addr} {me ce m co : Nat} {wt : Nat → Nat} {a b c : Nat → Int} {T : TypeId} (hT : OwnTal w0 w F A n id wt) (hr : T ≠ 172) {p q o : Nat → Nat} (cs : Array Value) (hcs : cs.size = (m + 1) * 3) (hm : m + 1 ≤ maxLen) :
    Coll w0 w.heap.size A n rf E O me ce m co wt (labK p q o) a b c 0 0 (allocs w (collObjs w.heap.size A rf E O me ce m co T cs)) := by
  have hO := allocs_only (collObjs w.heap.size A rf E O me ce m co T cs) w
  have at_ : ∀ i ob, (collObjs w.heap.size A rf E O me ce m co T cs)[i]? = some ob → (allocs w (collObjs w.heap.size A rf E O me ce m co T cs)).heap[w.heap.size + i]? = some ob := fun i ob h => allocs_at h
  refine ⟨F, _, hT.keep hO, fun k hk => .inl (hT.at_.lt k hk), fun g hg hk => ?_, at_ 3 _ rfl, ⟨by simp [edgesL], .inr ⟨w.heap.size + 2, m + 1, cs, rfl, by omega, at_ 2 _ rfl, Nat.zero_le _, hm, hcs, by simp [edgesL]⟩⟩, ⟨at_ 0 _ rfl, ⟨T, hr, at_ 1 _ rfl⟩, at_ 4 _ rfl, at_ 5 _ rfl, at_ 6 _ rfl⟩⟩
  have := hT.at_.lt g hk
  simp [Value.ownBlock] at hg
  omega
/-- One row more. -/
theorem Coll.put {w0 : World} {s A n rf : Nat} {E O : Option Addr} {me ce m co : Nat} {wt : Nat → Nat} {lab : Nat → Nat → Nat} {a b c : Nat → Int} {j r : Nat} {W0 : World} (hs : w0.heap.size ≤ s) (h : Coll w0 s A n rf E O me ce m co wt lab a b c j r W0) :
    ∃ v, (∃ A c, v = .slice A r c) ∧ ∀ W, Only [] W0 W → s ≤ W.heap.size ∧ W.cell? ⟨s, 0, none⟩ = some (.pointer (some ⟨A, 0, none⟩)) ∧ W.cell? ⟨s + 1, 0, none⟩ = some (.func (.func rf) #[] #[]) ∧ W.cell? ⟨s + 3, 0, none⟩ = some v ∧ W.ownsRow s 172 3 v r (edgesL a b c r) ∧
      ∀ w3 v' tmp, w3.ownsRow s 172 3 v' (r + 1) (edgesL a b c r ++ [.int .i64 (a r), .int .i64 (b r), .int .i64 (c r)]) → (W.alloc tmp).grownBy w3 v.ownBlock →
      (v'.ownBlock = v.ownBlock ∨ v'.ownBlock = some (W.alloc tmp).heap.size) → w3.cell? ⟨s + 3, 0, none⟩ = some v ∧ w3.frozen? ⟨s + 3, 0, none⟩ = false ∧ Coll w0 s A n rf E O me ce m co wt lab a b c j (r + 1) (w3.setCell ⟨s + 3, 0, none⟩ v') ∧ KeepsOthers W (w3.setCell ⟨s + 3, 0, none⟩ v') := by
  obtain ⟨F, v, h1, h2, h3, h4, h5, h6⟩ := h
  refine ⟨v, row_slice h5, fun W hO => ?_⟩
  replace h1 := h1.keep hO
  replace h4 : Boxed W (s + 3) 169 v := (hO.block _ (heap_lt h4) (by simp)).trans h4
  replace h5 := (KeepC.of_only (b := 0) hO).owns h5
  replace h6 := h6.map (W' := W) fun i cs T f _ _ _ _ hi => (hO.block _ (heap_lt hi) (by simp)).trans hi
  clear hO W0
  have hsz : s + 7 ≤ W.heap.size := heap_lt h6.b6
  obtain ⟨T1, hT1, hb1⟩ := h6.b1
  refine ⟨by omega, h6.b0.cell, hb1.cell, h4.cell, h5, fun w3 v' tmp ho hg hat => ?_⟩
  obtain ⟨k1, k2, k3, k4, k5⟩ := h4.appended (by decide) h5 (by omega) (by omega) ho hg
  have hrow : ∀ g, v.ownBlock = some g → ∃ cs, W.heap[g]? = some (.cells cs 172 (0, 0)) := fun g e => by
    rcases h5.2 with ⟨rfl, _⟩ | ⟨g', cap, cur, rfl, _, hh, _⟩
    · simp [Value.ownBlock] at e
    · simp [Value.ownBlock] at e; subst e; exact ⟨_, hh⟩
  have keep : ∀ i, i < W.heap.size → some i ≠ v.ownBlock → i ≠ s + 3 → (w3.setCell ⟨s + 3, 0, none⟩ v').heap[i]? = W.heap[i]? := fun i hi hv hne => by
    rw [heap_setCell_other _ _ _ _ (by exact hne), hg.block i (by rw [World.size_alloc]; omega) hv, heap_alloc_old _ _ hi]
  have tp : ∀ i cs T f, T ≠ 172 → W.heap[i]? = some (.cells cs T f) → some i ≠ v.ownBlock := fun i cs T f hT hi e => by
    obtain ⟨cs', hc⟩ := hrow i e.symm
    rw [hi] at hc
    cases hc
    exact hT rfl
  refine ⟨k1.cell, k1.frozen, ⟨F, v', ⟨h1.at_.same fun i hi => ?_, h1.new, ⟨k5.os.trans h1.only.os, k5.tape.trans h1.only.tape, k5.output.trans h1.only.output, Nat.le_trans h1.only.size k5.size, fun i hi hn => (k5.block i (by omega)).trans (h1.only.block i hi hn)⟩⟩, h2, fun g hv hk => ?_, k2, by rw [edgesL_succ]; exact k3, ?_⟩, k4⟩
  · have := h2 i hi
    exact keep i (h1.at_.lt i hi) (fun e => h3 i e.symm hi) (by omega)
  · rcases hat with e | e
    · exact h3 g (by rw [← e]; exact hv) hk
    · rw [e, World.size_alloc] at hv
      have := h1.at_.lt g hk
      cases hv
      omega
  · exact h6.map fun i cs T f _ _ hne hT hi => (keep i (heap_lt hi) (tp i cs T f hT hi) hne).trans hi

set_option maxRecDepth 100000 in
set_option maxHeartbeats 8000000 in
theorem collect_in (w0 : World) (A n : Nat) (E O : Option Addr) (me ce m co : Nat) (u v x fo : Nat → Int) (p q o wt : Nat → Nat) (F : List Nat) (w : World) (hT : OwnTal w0 w F A n id wt) (hP : Picked w0 n me m E O u v x fo p q o) (hm : m ≤ 65536)
    (rd : ∀ (W : World) (F : List Nat) (lab : Nat → Nat), TalAt W F A n lab wt → Calls Try.prog 114 #[.pointer (some ⟨A, 0, none⟩)] W fun e w' => e = .returned (.agg #[.int .i64 (largest n lab wt), .int .i64 (roots n lab), .int .i64 (squares n lab wt)]) ∧ Only [] W w') :
    CallsIn Fence.wide 6 Try.prog 113 #[.pointer (some ⟨A, 0, none⟩), .slice E me ce, .slice O m co, .func (.func 114) #[] #[]] w fun e w' =>
      ∃ vo, e = .returned vo ∧ w'.ownsRow w.heap.size 172 3 vo (m + 1) (edgesL (rA n p q o wt) (rB n p q o) (rC n p q o wt) (m + 1)) ∧ Only [] w0 w' := by
  obtain ⟨i0, hi, hz0, hz1, hz2⟩ := info_parts infoRow
  have hmk := mk_rows m hm
  obtain ⟨s, hs⟩ : ∃ s, w.heap.size = s := ⟨_, rfl⟩
  have HT := Lib.hid hT
  have HP := Lib.hid hP
  have HRd := Lib.hid rd
  have HS := Lib.hid hs
  clear hT hP rd hs
  refine callsIn_of_wp_marks Try.func113 rfl trivial ?_ rfl
  simp only [Try.ntmps113, List.size_toArray, List.length_cons, List.length_nil, Nat.reduceAdd, Nat.reduceSub, Array.replicate_succ, Array.replicate_zero, List.push_toArray, List.append_toArray, List.nil_append, List.cons_append]
  gi_wp2_with fail
  clear hmk
  refine ⟨trivial, (callsIn_wide.2 (steps_any _ _ _ _ _ _ _ _)).mono ?_⟩
  rintro e w' ⟨rfl, rfl⟩
  gi_wp2
  have hmix : Try.prog.follows .mixedOrders = true := by kernel_rfl
  have hdp : ∀ m : Nat, (Fence.wide.depth.isSome = true → 1 ≤ m) := fun m h => by cases h
  have hsw : w0.heap.size ≤ w.heap.size := HT.out.only.size
  have HC := Lib.hid (coll_start (rf := 114) (E := E) (O := O) (me := me) (ce := ce) (m := m) (co := co) (a := rA n p q o wt) (b := rB n p q o) (c := rC n p q o wt) (T := 173) (p := p) (q := q) (o := o) HT.out (by decide) (madeCells #[.int .i64 0, .int .i64 0, .int .i64 0] ((m + 1) * 3)) (size_madeCells _ _) (by unfold maxLen; omega))
  obtain ⟨W1, hW1⟩ : ∃ W1, allocs w (collObjs w.heap.size A 114 E O me ce m co 173 (madeCells #[.int .i64 0, .int .i64 0, .int .i64 0] ((m + 1) * 3))) = W1 := ⟨_, rfl⟩
  have HO1 := Lib.hid (hW1 ▸ allocs_only _ w : Only [] w W1)
  rw [hW1] at HC
  change Code.wpIn _ _ _ _ _ _ (allocs w (collObjs w.heap.size A 114 E O me ce m co 173 (madeCells #[.int .i64 0, .int .i64 0, .int .i64 0] ((m + 1) * 3))))
  rw [hW1]
  have hs1 : w0.heap.size ≤ W1.heap.size := Nat.le_trans hsw HO1.out.size
  clear hW1
  rw [HS.out] at HC hsw ⊢
  refine range_steps (by omega) (gf := 153) (lb := #[.pointer (some ⟨s + 1 + 1 + 1 + 1 + 1 + 1, 0, none⟩), .pointer (some ⟨s + 1 + 1 + 1 + 1, 0, none⟩), .pointer (some ⟨s + 1 + 1 + 1 + 1 + 1, 0, none⟩)]) (m := m) (Fact := fun _ W => StepFact A (s + 4) (s + 5) (s + 6) E O me ce m co u v x fo W) (U := fun j => #[.pointer (some ⟨A, 0, none⟩), .int .i64 (p (o j)), .int .i64 (q (o j))]) rfl (enters_of Try.func153 (by kernel_rfl) rfl) ?hseq rfl
    (fun j W => Coll w0 s A n 114 E O me ce m co wt (labK p q o) (rA n p q o wt) (rB n p q o) (rC n p q o wt) j j W) (fun j W => Coll w0 s A n 114 E O me ce m co wt (labK p q o) (rA n p q o wt) (rB n p q o) (rC n p q o wt) j (j + 1) W) ?ca ?cb HC.out ?fact ?fr ?assign ?body ?hU ?done
  case hseq => exact steps1_in 5 A (s + 4) (s + 5) (s + 6) E O me ce m co u v x fo p q o hm HP.out.inds (fun j hj => ⟨(HP.out.ends j hj).1, (HP.out.ends j hj).2.1⟩)
  case ca => exact fun j W W' h k => h.calm k hs1
  case cb => exact fun j W W' h k => h.calm k hs1
  case fact =>
    rintro j W ⟨F', v', h1, _, _, _, _, h6⟩
    exact Wd.Picked.fact HP.out h1.only h6
  case assign =>
    intro l j W K hK
    gi_wp2
    exact hK
  case hU =>
    intro j W hj h
    obtain ⟨_, hol⟩ := HP.out.inds j hj
    obtain ⟨_, _, h1, h2⟩ := HP.out.ends (o j) hol
    exact h.union h1 h2 (labK_succ p q o j)
  case body =>
    intro l j W hc hj
    have HG := Lib.hid (show ∀ W2, Only [] W W2 → Calls Try.prog 114 #[.pointer (some ⟨A, 0, none⟩)] W2 fun e w' => e = .returned (.agg #[.int .i64 (rA n p q o wt j), .int .i64 (rB n p q o j), .int .i64 (rC n p q o wt j)]) ∧ Only [] W2 w' from fun W2 hO => by
      obtain ⟨F', _, h1, _⟩ := hc
      exact HRd.out W2 F' _ (h1.at_.keep hO))
    obtain ⟨v, _, hput⟩ := hc.put hsw
    obtain ⟨_, c0, c1, c3, _, _⟩ := hput W (Only.refl _ _)
    have HR := Lib.hid (show ∀ W2, Only [] W W2 → W2.cell? ⟨s + 3, 0, none⟩ = some v ∧ (W2.alloc (.cells #[.int .i64 (rA n p q o wt j), .int .i64 (rB n p q o j), .int .i64 (rC n p q o wt j)] 172)).cell? ⟨s + 3, 0, none⟩ = some v ∧ ∃ g' cap' w3, (Builtin.append_ #[169, 169] 169 #[v, .slice (some ⟨W2.heap.size, 0, none⟩) 1 1]).run Try.prog (W2.alloc (.cells #[.int .i64 (rA n p q o wt j), .int .i64 (rB n p q o j), .int .i64 (rC n p q o wt j)] 172)) = .ok (.slice (some ⟨g', 0, none⟩) (j + 1) cap') w3 ∧ w3.cell? ⟨s + 3, 0, none⟩ = some v ∧ w3.frozen? ⟨s + 3, 0, none⟩ = false ∧
        Hid (KeepsOthers W (w3.setCell ⟨s + 3, 0, none⟩ (.slice (some ⟨g', 0, none⟩) (j + 1) cap')) ∧ Coll w0 s A n 114 E O me ce m co wt (labK p q o) (rA n p q o wt) (rB n p q o) (rC n p q o wt) j (j + 1) (w3.setCell ⟨s + 3, 0, none⟩ (.slice (some ⟨g', 0, none⟩) (j + 1) cap'))) from fun W2 hO => by
      obtain ⟨g1, _, _, c3, hrow2, hp2⟩ := hput W2 hO
      obtain ⟨v', w3, hrun, hown', hgrow, _, hat⟩ := run_append_own_at (P := Try.prog) (w := W2.alloc (.cells #[.int .i64 (rA n p q o wt j), .int .i64 (rB n p q o j), .int .i64 (rC n p q o wt j)] 172)) s 169 169 172 i0 (.agg #[.int .i64 0, .int .i64 0, .int .i64 0]) 3 24 Try.underlying169 hi hz0 hz1 hz2 rfl (by decide) v j (edgesL (rA n p q o wt) (rB n p q o) (rC n p q o wt) j) (hrow2.alloc _) ⟨W2.heap.size, 0, none⟩ 1 1 [.int .i64 (rA n p q o wt j), .int .i64 (rB n p q o j), .int .i64 (rC n p q o wt j)] rfl (cell_three_new _ _ _ _ _) (by simp [Value.oneCell']) (by unfold maxLen; omega) (by omega) (by simp; omega)
      obtain ⟨d1, d2, d3, d4⟩ := hp2 w3 v' _ hown' hgrow hat
      obtain ⟨g', cap', rfl⟩ := ownsRow_succ hown'
      exact ⟨c3, Lib.cell?_alloc_some _ c3, g', cap', w3, hrun, d1, d2, Lib.hid ⟨KeepsOthers.trans (KeepsOthers.of_only hO) d4, d3⟩⟩)
    clear hput hc
    gi_wp2
    refine wpIn_region_any hmix ?_
    change wpAnyIn _ _ _ _ _ _ _ _ _ (World.drew _)
    -- REGION
    refine wpAnyIn_ready (rs := [0, 1, 2]) (by kernel_rfl) (by simp) ?_
    refine AllReadyIn.cons rfl (fun K hK => ?_) ?_
    · go_simp
      refine hK _ _ ?_
      clear hK K
      refine wpAnyIn_ready (rs := [1, 2]) (by kernel_rfl) (by simp) ?_
      refine AllReadyIn.cons rfl (fun K hK => ?_) ?_
      · go_simp
        refine hK _ _ ?_
        clear hK K
        refine wpAnyIn_ready (rs := [2]) (by kernel_rfl) (by simp) ?_
        refine AllReadyIn.cons rfl (fun K hK => ?_) AllReadyIn.nil
        go_simp
        refine hK _ _ ?_
        clear hK K
        refine wpAnyIn_ready (rs := [3]) (by kernel_rfl) (by simp) ?_
        refine AllReadyIn.cons rfl (fun K hK => ?_) AllReadyIn.nil
        go_simp
        refine ⟨trivial, (CallsIn.inRound l (callsIn_wide.2 (HG.out _ ((Only.refl [] W).drewN 1)))).mono ?_⟩
        rintro e W2 ⟨rfl, hO⟩
        obtain ⟨c3, c4, g2, cap2, w3, hrun, d1, d2, HX⟩ := HR.out W2 (((Only.refl [] W).drewN 1).trans hO)
        clear hO
        refine hK _ _ ?_
        clear hK K
        refine wpAnyIn_ready (rs := [4]) (by kernel_rfl) (by simp) ?_
        refine AllReadyIn.cons rfl (fun K hK => ?_) AllReadyIn.nil
        go_simp
        refine hK _ _ ?_
        clear hK K
        refine wpAnyIn_ready (rs := [5]) (by kernel_rfl) (by simp) ?_
        refine AllReadyIn.cons rfl (fun K hK => ?_) AllReadyIn.nil
        refine stepIn_append rfl (.tmp 19) (.tmp 23) 169 rfl hrun ?_
        refine hK _ _ ?_
        clear hK K
        simp only [Act.put, List.setIfInBounds_toArray, List.set_cons_zero, List.set_cons_succ]
        refine wpAnyIn_ready (rs := [6]) (by kernel_rfl) (by simp) ?_
        refine AllReadyIn.cons rfl (fun K hK => ?_) AllReadyIn.nil
        go_simp
        refine hK _ _ ?_
        clear hK K
        refine wpAnyIn_done (by kernel_rfl) ?_ _
        exact HX.out
      refine AllReadyIn.cons rfl (fun K hK => ?_) AllReadyIn.nil
      go_simp
      refine hK _ _ ?_
      clear hK K
      refine wpAnyIn_ready (rs := [1]) (by kernel_rfl) (by simp) ?_
      refine AllReadyIn.cons rfl (fun K hK => ?_) AllReadyIn.nil
      go_simp
      refine hK _ _ ?_
      clear hK K
      refine wpAnyIn_ready (rs := [3]) (by kernel_rfl) (by simp) ?_
      refine AllReadyIn.cons rfl (fun K hK => ?_) AllReadyIn.nil
      go_simp
      refine ⟨trivial, (CallsIn.inRound l (callsIn_wide.2 (HG.out _ ((Only.refl [] W).drewN 1)))).mono ?_⟩
      rintro e W2 ⟨rfl, hO⟩
      obtain ⟨c3, c4, g2, cap2, w3, hrun, d1, d2, HX⟩ := HR.out W2 (((Only.refl [] W).drewN 1).trans hO)
      clear hO
      refine hK _ _ ?_
      clear hK K
      refine wpAnyIn_ready (rs := [4]) (by kernel_rfl) (by simp) ?_
      refine AllReadyIn.cons rfl (fun K hK => ?_) AllReadyIn.nil
      go_simp
      refine hK _ _ ?_
      clear hK K
      refine wpAnyIn_ready (rs := [5]) (by kernel_rfl) (by simp) ?_
      refine AllReadyIn.cons rfl (fun K hK => ?_) AllReadyIn.nil
      refine stepIn_append rfl (.tmp 19) (.tmp 23) 169 rfl hrun ?_
      refine hK _ _ ?_
      clear hK K
      simp only [Act.put, List.setIfInBounds_toArray, List.set_cons_zero, List.set_cons_succ]
      refine wpAnyIn_ready (rs := [6]) (by kernel_rfl) (by simp) ?_
      refine AllReadyIn.cons rfl (fun K hK => ?_) AllReadyIn.nil
      go_simp
      refine hK _ _ ?_
      clear hK K
      refine wpAnyIn_done (by kernel_rfl) ?_ _
      exact HX.out
    refine AllReadyIn.cons rfl (fun K hK => ?_) ?_
    · go_simp
      refine hK _ _ ?_
      clear hK K
      refine wpAnyIn_ready (rs := [0, 2]) (by kernel_rfl) (by simp) ?_
      refine AllReadyIn.cons rfl (fun K hK => ?_) ?_
      · go_simp
        refine hK _ _ ?_
        clear hK K
        refine wpAnyIn_ready (rs := [2]) (by kernel_rfl) (by simp) ?_
        refine AllReadyIn.cons rfl (fun K hK => ?_) AllReadyIn.nil
        go_simp
        refine hK _ _ ?_
        clear hK K
        refine wpAnyIn_ready (rs := [3]) (by kernel_rfl) (by simp) ?_
        refine AllReadyIn.cons rfl (fun K hK => ?_) AllReadyIn.nil
        go_simp
        refine ⟨trivial, (CallsIn.inRound l (callsIn_wide.2 (HG.out _ ((Only.refl [] W).drewN 1)))).mono ?_⟩
        rintro e W2 ⟨rfl, hO⟩
        obtain ⟨c3, c4, g2, cap2, w3, hrun, d1, d2, HX⟩ := HR.out W2 (((Only.refl [] W).drewN 1).trans hO)
        clear hO
        refine hK _ _ ?_
        clear hK K
        refine wpAnyIn_ready (rs := [4]) (by kernel_rfl) (by simp) ?_
        refine AllReadyIn.cons rfl (fun K hK => ?_) AllReadyIn.nil
        go_simp
        refine hK _ _ ?_
        clear hK K
        refine wpAnyIn_ready (rs := [5]) (by kernel_rfl) (by simp) ?_
        refine AllReadyIn.cons rfl (fun K hK => ?_) AllReadyIn.nil
        refine stepIn_append rfl (.tmp 19) (.tmp 23) 169 rfl hrun ?_
        refine hK _ _ ?_
        clear hK K
        simp only [Act.put, List.setIfInBounds_toArray, List.set_cons_zero, List.set_cons_succ]
        refine wpAnyIn_ready (rs := [6]) (by kernel_rfl) (by simp) ?_
        refine AllReadyIn.cons rfl (fun K hK => ?_) AllReadyIn.nil
        go_simp
        refine hK _ _ ?_
        clear hK K
        refine wpAnyIn_done (by kernel_rfl) ?_ _
        exact HX.out
      refine AllReadyIn.cons rfl (fun K hK => ?_) AllReadyIn.nil
      go_simp
      refine hK _ _ ?_
      clear hK K
      refine wpAnyIn_ready (rs := [0, 3]) (by kernel_rfl) (by simp) ?_
      refine AllReadyIn.cons rfl (fun K hK => ?_) ?_
      · go_simp
        refine hK _ _ ?_
        clear hK K
        refine wpAnyIn_ready (rs := [3]) (by kernel_rfl) (by simp) ?_
        refine AllReadyIn.cons rfl (fun K hK => ?_) AllReadyIn.nil
        go_simp
        refine ⟨trivial, (CallsIn.inRound l (callsIn_wide.2 (HG.out _ ((Only.refl [] W).drewN 1)))).mono ?_⟩
        rintro e W2 ⟨rfl, hO⟩
        obtain ⟨c3, c4, g2, cap2, w3, hrun, d1, d2, HX⟩ := HR.out W2 (((Only.refl [] W).drewN 1).trans hO)
        clear hO
        refine hK _ _ ?_
        clear hK K
        refine wpAnyIn_ready (rs := [4]) (by kernel_rfl) (by simp) ?_
        refine AllReadyIn.cons rfl (fun K hK => ?_) AllReadyIn.nil
        go_simp
        refine hK _ _ ?_
        clear hK K
        refine wpAnyIn_ready (rs := [5]) (by kernel_rfl) (by simp) ?_
        refine AllReadyIn.cons rfl (fun K hK => ?_) AllReadyIn.nil
        refine stepIn_append rfl (.tmp 19) (.tmp 23) 169 rfl hrun ?_
        refine hK _ _ ?_
        clear hK K
        simp only [Act.put, List.setIfInBounds_toArray, List.set_cons_zero, List.set_cons_succ]
        refine wpAnyIn_ready (rs := [6]) (by kernel_rfl) (by simp) ?_
        refine AllReadyIn.cons rfl (fun K hK => ?_) AllReadyIn.nil
        go_simp
        refine hK _ _ ?_
        clear hK K
        refine wpAnyIn_done (by kernel_rfl) ?_ _
        exact HX.out
      refine AllReadyIn.cons rfl (fun K hK => ?_) AllReadyIn.nil
      go_simp
      refine ⟨trivial, (CallsIn.inRound l (callsIn_wide.2 (HG.out _ ((Only.refl [] W).drewN 1)))).mono ?_⟩
      rintro e W2 ⟨rfl, hO⟩
      obtain ⟨c3, c4, g2, cap2, w3, hrun, d1, d2, HX⟩ := HR.out W2 (((Only.refl [] W).drewN 1).trans hO)
      clear hO
      refine hK _ _ ?_
      clear hK K
      refine wpAnyIn_ready (rs := [0, 4]) (by kernel_rfl) (by simp) ?_
      refine AllReadyIn.cons rfl (fun K hK => ?_) ?_
      · go_simp
        refine hK _ _ ?_
        clear hK K
        refine wpAnyIn_ready (rs := [4]) (by kernel_rfl) (by simp) ?_
        refine AllReadyIn.cons rfl (fun K hK => ?_) AllReadyIn.nil
        go_simp
        refine hK _ _ ?_
        clear hK K
        refine wpAnyIn_ready (rs := [5]) (by kernel_rfl) (by simp) ?_
        refine AllReadyIn.cons rfl (fun K hK => ?_) AllReadyIn.nil
        refine stepIn_append rfl (.tmp 19) (.tmp 23) 169 rfl hrun ?_
        refine hK _ _ ?_
        clear hK K
        simp only [Act.put, List.setIfInBounds_toArray, List.set_cons_zero, List.set_cons_succ]
        refine wpAnyIn_ready (rs := [6]) (by kernel_rfl) (by simp) ?_
        refine AllReadyIn.cons rfl (fun K hK => ?_) AllReadyIn.nil
        go_simp
        refine hK _ _ ?_
        clear hK K
        refine wpAnyIn_done (by kernel_rfl) ?_ _
        exact HX.out
      refine AllReadyIn.cons rfl (fun K hK => ?_) AllReadyIn.nil
      go_simp
      refine hK _ _ ?_
      clear hK K
      refine wpAnyIn_ready (rs := [0]) (by kernel_rfl) (by simp) ?_
      refine AllReadyIn.cons rfl (fun K hK => ?_) AllReadyIn.nil
      go_simp
      refine hK _ _ ?_
      clear hK K
      refine wpAnyIn_ready (rs := [5]) (by kernel_rfl) (by simp) ?_
      refine AllReadyIn.cons rfl (fun K hK => ?_) AllReadyIn.nil
      refine stepIn_append rfl (.tmp 19) (.tmp 23) 169 rfl hrun ?_
      refine hK _ _ ?_
      clear hK K
      simp only [Act.put, List.setIfInBounds_toArray, List.set_cons_zero, List.set_cons_succ]
      refine wpAnyIn_ready (rs := [6]) (by kernel_rfl) (by simp) ?_
      refine AllReadyIn.cons rfl (fun K hK => ?_) AllReadyIn.nil
      go_simp
      refine hK _ _ ?_
      clear hK K
      refine wpAnyIn_done (by kernel_rfl) ?_ _
      exact HX.out
    refine AllReadyIn.cons rfl (fun K hK => ?_) AllReadyIn.nil
    go_simp
    refine hK _ _ ?_
    clear hK K
    refine wpAnyIn_ready (rs := [0, 1]) (by kernel_rfl) (by simp) ?_
    refine AllReadyIn.cons rfl (fun K hK => ?_) ?_
    · go_simp
      refine hK _ _ ?_
      clear hK K
      refine wpAnyIn_ready (rs := [1]) (by kernel_rfl) (by simp) ?_
      refine AllReadyIn.cons rfl (fun K hK => ?_) AllReadyIn.nil
      go_simp
      refine hK _ _ ?_
      clear hK K
      refine wpAnyIn_ready (rs := [3]) (by kernel_rfl) (by simp) ?_
      refine AllReadyIn.cons rfl (fun K hK => ?_) AllReadyIn.nil
      go_simp
      refine ⟨trivial, (CallsIn.inRound l (callsIn_wide.2 (HG.out _ ((Only.refl [] W).drewN 1)))).mono ?_⟩
      rintro e W2 ⟨rfl, hO⟩
      obtain ⟨c3, c4, g2, cap2, w3, hrun, d1, d2, HX⟩ := HR.out W2 (((Only.refl [] W).drewN 1).trans hO)
      clear hO
      refine hK _ _ ?_
      clear hK K
      refine wpAnyIn_ready (rs := [4]) (by kernel_rfl) (by simp) ?_
      refine AllReadyIn.cons rfl (fun K hK => ?_) AllReadyIn.nil
      go_simp
      refine hK _ _ ?_
      clear hK K
      refine wpAnyIn_ready (rs := [5]) (by kernel_rfl) (by simp) ?_
      refine AllReadyIn.cons rfl (fun K hK => ?_) AllReadyIn.nil
      refine stepIn_append rfl (.tmp 19) (.tmp 23) 169 rfl hrun ?_
      refine hK _ _ ?_
      clear hK K
      simp only [Act.put, List.setIfInBounds_toArray, List.set_cons_zero, List.set_cons_succ]
      refine wpAnyIn_ready (rs := [6]) (by kernel_rfl) (by simp) ?_
      refine AllReadyIn.cons rfl (fun K hK => ?_) AllReadyIn.nil
      go_simp
      refine hK _ _ ?_
      clear hK K
      refine wpAnyIn_done (by kernel_rfl) ?_ _
      exact HX.out
    refine AllReadyIn.cons rfl (fun K hK => ?_) AllReadyIn.nil
    go_simp
    refine hK _ _ ?_
    clear hK K
    refine wpAnyIn_ready (rs := [0, 3]) (by kernel_rfl) (by simp) ?_
    refine AllReadyIn.cons rfl (fun K hK => ?_) ?_
    · go_simp
      refine hK _ _ ?_
      clear hK K
      refine wpAnyIn_ready (rs := [3]) (by kernel_rfl) (by simp) ?_
      refine AllReadyIn.cons rfl (fun K hK => ?_) AllReadyIn.nil
      go_simp
      refine ⟨trivial, (CallsIn.inRound l (callsIn_wide.2 (HG.out _ ((Only.refl [] W).drewN 1)))).mono ?_⟩
      rintro e W2 ⟨rfl, hO⟩
      obtain ⟨c3, c4, g2, cap2, w3, hrun, d1, d2, HX⟩ := HR.out W2 (((Only.refl [] W).drewN 1).trans hO)
      clear hO
      refine hK _ _ ?_
      clear hK K
      refine wpAnyIn_ready (rs := [4]) (by kernel_rfl) (by simp) ?_
      refine AllReadyIn.cons rfl (fun K hK => ?_) AllReadyIn.nil
      go_simp
      refine hK _ _ ?_
      clear hK K
      refine wpAnyIn_ready (rs := [5]) (by kernel_rfl) (by simp) ?_
      refine AllReadyIn.cons rfl (fun K hK => ?_) AllReadyIn.nil
      refine stepIn_append rfl (.tmp 19) (.tmp 23) 169 rfl hrun ?_
      refine hK _ _ ?_
      clear hK K
      simp only [Act.put, List.setIfInBounds_toArray, List.set_cons_zero, List.set_cons_succ]
      refine wpAnyIn_ready (rs := [6]) (by kernel_rfl) (by simp) ?_
      refine AllReadyIn.cons rfl (fun K hK => ?_) AllReadyIn.nil
      go_simp
      refine hK _ _ ?_
      clear hK K
      refine wpAnyIn_done (by kernel_rfl) ?_ _
      exact HX.out
    refine AllReadyIn.cons rfl (fun K hK => ?_) AllReadyIn.nil
    go_simp
    refine ⟨trivial, (CallsIn.inRound l (callsIn_wide.2 (HG.out _ ((Only.refl [] W).drewN 1)))).mono ?_⟩
    rintro e W2 ⟨rfl, hO⟩
    obtain ⟨c3, c4, g2, cap2, w3, hrun, d1, d2, HX⟩ := HR.out W2 (((Only.refl [] W).drewN 1).trans hO)
    clear hO
    refine hK _ _ ?_
    clear hK K
    refine wpAnyIn_ready (rs := [0, 4]) (by kernel_rfl) (by simp) ?_
    refine AllReadyIn.cons rfl (fun K hK => ?_) ?_
    · go_simp
      refine hK _ _ ?_
      clear hK K
      refine wpAnyIn_ready (rs := [4]) (by kernel_rfl) (by simp) ?_
      refine AllReadyIn.cons rfl (fun K hK => ?_) AllReadyIn.nil
      go_simp
      refine hK _ _ ?_
      clear hK K
      refine wpAnyIn_ready (rs := [5]) (by kernel_rfl) (by simp) ?_
      refine AllReadyIn.cons rfl (fun K hK => ?_) AllReadyIn.nil
      refine stepIn_append rfl (.tmp 19) (.tmp 23) 169 rfl hrun ?_
      refine hK _ _ ?_
      clear hK K
      simp only [Act.put, List.setIfInBounds_toArray, List.set_cons_zero, List.set_cons_succ]
      refine wpAnyIn_ready (rs := [6]) (by kernel_rfl) (by simp) ?_
      refine AllReadyIn.cons rfl (fun K hK => ?_) AllReadyIn.nil
      go_simp
      refine hK _ _ ?_
      clear hK K
      refine wpAnyIn_done (by kernel_rfl) ?_ _
      exact HX.out
    refine AllReadyIn.cons rfl (fun K hK => ?_) AllReadyIn.nil
    go_simp
    refine hK _ _ ?_
    clear hK K
    refine wpAnyIn_ready (rs := [0]) (by kernel_rfl) (by simp) ?_
    refine AllReadyIn.cons rfl (fun K hK => ?_) AllReadyIn.nil
    go_simp
    refine hK _ _ ?_
    clear hK K
    refine wpAnyIn_ready (rs := [5]) (by kernel_rfl) (by simp) ?_
    refine AllReadyIn.cons rfl (fun K hK => ?_) AllReadyIn.nil
    refine stepIn_append rfl (.tmp 19) (.tmp 23) 169 rfl hrun ?_
    refine hK _ _ ?_
    clear hK K
    simp only [Act.put, List.setIfInBounds_toArray, List.set_cons_zero, List.set_cons_succ]
    refine wpAnyIn_ready (rs := [6]) (by kernel_rfl) (by simp) ?_
    refine AllReadyIn.cons rfl (fun K hK => ?_) AllReadyIn.nil
    go_simp
    refine hK _ _ ?_
    clear hK K
    refine wpAnyIn_done (by kernel_rfl) ?_ _
    exact HX.out
    -- END
  case done =>
    rintro D W hD ⟨F', v, h1, _, _, h4, h5, _⟩ hK
    have c1 := h4.cell
    have HE := Lib.hid (And.intro (ownsRow_putObj h5 (.deferred none) hK rfl) ((KeepC.put (b := w0.heap.size) (.deferred none) (by omega) hK rfl).onto h1.only (Nat.le_refl _)))
    clear h1 h4 h5
    gi_wp2
    refine ⟨by simp, .inl ⟨_, _, rfl, run_takeDeferred hK, ?_⟩⟩
    refine ⟨_, results_tmp rfl _ _ _, _, rfl, ?_, HE.out.2⟩
    rw [HS.out]
    exact HE.out.1

end Go.Proofs.Ytbafacdknaopjaa.Wd
