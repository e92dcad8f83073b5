import Derived.Test.YtipgbbhgmoehfaaYM
import Derived.Test.YtipgbbhgmoehfaaYI
/-
  Copies of lists by append to an empty one.
-/
namespace Go.Proofs.Ytipgbbhgmoehfaa
open Go.RowKit
set_option linter.unusedSimpArgs false
set_option linter.unusedSectionVars false

theorem EdgesIn.nil {w : World} {A : Option Addr} {u v x : Nat → Int} : EdgesIn w A 0 u v x := ⟨fun h => by omega, fun j hj => by omega, by unfold maxLen; omega⟩
theorem wpList_append_of {P : Program} {w w' : World} {ops : Array Oper} {rest : List Oper} {o : Oper} {a : Act} {Q : Exit → Act → World → Prop} (hgd : o.guard = none) (s x : Operand) (t : TypeId)
    (ho : o.op = .call { callee := .builtin .append, args := #[s, x], argTypes := #[t, t] }) {v v' y : Value} (hs : a.eval s = v) (hx : a.eval x = y) (hr : (Builtin.append_ #[t, t] o.type #[v, y]).run P w = .ok v' w') (h : wpList P ops Q rest (a.put o.dst v') w') : wpList P ops Q (o :: rest) a w :=
  wpList_plain hgd fun K hK => by
    unfold Oper.wp execOp
    simp only [ho, resolve, invoke, builtin, Sem.run_bind, Sem.run_pure, Result.andThen_ok, List.map_toArray, List.map_cons, List.map_nil, hs, hx, hr]
    exact hK _ _ h
theorem run_append_none (W : World) {t e : TypeId} {i : TypeInfo} (ht : Try.prog.underlying t = some (.slice e)) (hi : Try.prog.info? e = some i) (c : Nat) (ty : TypeId) :
    (Builtin.append_ #[t, t] ty #[.slice (some ⟨W.heap.size, 0, none⟩) 0 0, .slice none 0 c]).run Try.prog (W.alloc (.cells #[] e)) = .ok (.slice (some ⟨W.heap.size, 0, none⟩) 0 0) (W.alloc (.cells #[] e)) := by
  simp [Builtin.append_, run_underlying ht, sizeOf, typeInfo, hi, Builtin.lenOf, Builtin.firstCells, storeCells]
theorem made_only {W w1 : World} {tmp : Obj} {v : Value} (hg : (W.alloc tmp).grownBy w1 v.ownBlock) (hv : v.ownBlock = some W.heap.size) : Only [] W w1 :=
  only_of_below' (((Below.refl _ W).alloc (Nat.le_refl _) _).grown hg (by simp) (by intro k hk; rw [hv] at hk; cases hk; exact Nat.le_refl _))
theorem copy_edges (A : Option Addr) (n c : Nat) (u v x : Nat → Int) (W : World) (h : EdgesIn W A n u v x) (hn : n ≤ 65536) (ty : TypeId) : ∃ A' c' W', (Builtin.append_ #[23, 23] ty #[.slice (some ⟨W.heap.size, 0, none⟩) 0 0, .slice A n c]).run Try.prog (W.alloc (.cells #[] 43)) = .ok (.slice A' n c') W' ∧ EdgesIn W' A' n u v x ∧ Only [] W W' := by
  obtain ⟨i0, hi, hz0, hz1, hz2⟩ := info_parts infoEdge
  cases A with
  | none =>
    obtain rfl : n = 0 := by
      rcases Nat.eq_zero_or_pos n with h0 | h0
      · exact h0
      · obtain ⟨b, off, hA, _⟩ := h.row h0; cases hA
    exact ⟨_, _, _, run_append_none W Try.underlying23 hi c ty, EdgesIn.nil, (Only.refl [] W).alloc _⟩
  | some a =>
    obtain ⟨v', w1, hr, hown, hg, _⟩ := run_append_own (P := Try.prog) (W.alloc (.cells #[] 43)) W.heap.size 23 ty 43 i0 (.agg #[.int .i64 0, .int .i64 0, .int .i64 0]) 3 24 Try.underlying23 hi hz0 hz1 hz2 rfl (by decide) _ 0 [] (World.ownsRow_made W #[] 0 (Nat.le_refl _) (Nat.zero_le _) rfl) a n c (edgesL u v x n) (by simp [edgesL])
      (fun j y hj => by
        have hjn : j < n * 3 := by
          have := (List.getElem?_eq_some_iff.1 hj).1
          simpa [edgesL] using this
        obtain ⟨b, off, hA, hc⟩ := h.flat hjn
        cases hA
        rw [edgesL_get u v x hjn] at hj
        rw [Addr.add_lit]
        refine Lib.cell?_alloc_some _ ?_
        rw [hc]; exact hj)
      (fun y hy => by obtain ⟨z, _, rfl⟩ := List.mem_map.1 hy; rfl) (by unfold maxLen; omega) (by omega) (by simp)
    obtain ⟨A', c', rfl, hE⟩ := edges_own (u := u) (v := v) (x := x) (n := n) (by simpa using hown) h.wf
    exact ⟨A', c', w1, hr, hE, made_only hg rfl⟩
theorem ints_owned2 {w : World} {base n : Nat} {T : TypeId} {val : Value} {f : Nat → Int} (h : w.ownsRow base T 1 val n ((List.range n).map fun i => .int .i64 (f i))) (hw : ∀ j, j < n → (Lit.int .i64 (f j)).wf = true) : ∃ A c, val = .slice A n c ∧ IntsIn w .i64 A n f := by
  obtain ⟨hl, ⟨rfl, rfl⟩ | ⟨g, cap, cur, rfl, hg, hh, hn, hc, hs, ht⟩⟩ := h
  · exact ⟨none, 0, rfl, fun h => by omega, hw, by unfold maxLen; omega⟩
  · refine ⟨_, cap, rfl, fun h0 => ⟨g, 0, rfl, heap_lt hh, fun j hj => ?_⟩, hw, by omega⟩
    have e : ((List.range n).map fun i => (.int .i64 (f i) : Value))[j]? = some (.int .i64 (f j)) := by simp [hj]
    rw [← ht, List.getElem?_take, if_pos (by omega)] at e
    rw [Nat.zero_add]
    exact cell_of_heap hh (by simpa using e)
theorem copy_of (ts te : TypeId) {i0 : TypeInfo} (hu : Try.prog.underlying ts = some (.slice te)) (hi : Try.prog.info? te = some i0) (hz0 : i0.zero = some (.int .i64 0)) (hz1 : i0.size = 1) (hz2 : i0.bytes = 8) (A : Option Addr) (n c : Nat) (f : Nat → Int) (W : World) (h : IntsIn W .i64 A n f) (hn : n ≤ 65536) (ty : TypeId) :
    ∃ A' c' W', (Builtin.append_ #[ts, ts] ty #[.slice (some ⟨W.heap.size, 0, none⟩) 0 0, .slice A n c]).run Try.prog (W.alloc (.cells #[] te)) = .ok (.slice A' n c') W' ∧ IntsIn W' .i64 A' n f ∧ Only [] W W' := by
  cases A with
  | none =>
    obtain rfl : n = 0 := by
      rcases Nat.eq_zero_or_pos n with h0 | h0
      · exact h0
      · obtain ⟨b, off, hA, _⟩ := h.cell h0; cases hA
    exact ⟨_, _, _, run_append_none W hu hi c ty, ⟨fun h => by omega, fun j hj => by omega, by unfold maxLen; omega⟩, (Only.refl [] W).alloc _⟩
  | some a =>
    obtain ⟨v', w1, hr, hown, hg, _⟩ := run_append_own (P := Try.prog) (W.alloc (.cells #[] te)) W.heap.size ts ty te i0 (.int .i64 0) 1 8 hu hi hz0 hz1 hz2 rfl (by decide) _ 0 [] (World.ownsRow_made W #[] 0 (Nat.le_refl _) (Nat.zero_le _) rfl) a n c ((List.range n).map fun i => .int .i64 (f i)) (by simp)
      (fun j y hj => by
        have hjn : j < n := by
          have := (List.getElem?_eq_some_iff.1 hj).1
          simpa using this
        obtain ⟨b, off, hA, hc⟩ := h.cell hjn
        cases hA
        have e : ((List.range n).map fun i => (.int .i64 (f i) : Value))[j]? = some (.int .i64 (f j)) := by simp [hjn]
        rw [e] at hj
        rw [Addr.add_lit]
        refine Lib.cell?_alloc_some _ ?_
        rw [hc]; exact hj)
      (fun y hy => by obtain ⟨z, _, rfl⟩ := List.mem_map.1 hy; rfl) (by unfold maxLen; omega) (by omega) (by simp)
    obtain ⟨A', c', rfl, hE⟩ := ints_owned2 (f := f) (n := n) (by simpa using hown) h.wf
    exact ⟨A', c', w1, hr, hE, made_only hg rfl⟩
theorem copy_int (A : Option Addr) (n c : Nat) (f : Nat → Int) (W : World) (h : IntsIn W .i64 A n f) (hn : n ≤ 65536) (ty : TypeId) :
    ∃ A' c' W', (Builtin.append_ #[30, 30] ty #[.slice (some ⟨W.heap.size, 0, none⟩) 0 0, .slice A n c]).run Try.prog (W.alloc (.cells #[] 3)) = .ok (.slice A' n c') W' ∧ IntsIn W' .i64 A' n f ∧ Only [] W W' := by
  obtain ⟨i0, hi, hz0, hz1, hz2⟩ := info_parts infoInt
  exact copy_of _ _ Try.underlying30 hi hz0 hz1 hz2 A n c f W h hn ty
theorem copy_int64 (A : Option Addr) (n c : Nat) (f : Nat → Int) (W : World) (h : IntsIn W .i64 A n f) (hn : n ≤ 65536) (ty : TypeId) :
    ∃ A' c' W', (Builtin.append_ #[48, 48] ty #[.slice (some ⟨W.heap.size, 0, none⟩) 0 0, .slice A n c]).run Try.prog (W.alloc (.cells #[] 2)) = .ok (.slice A' n c') W' ∧ IntsIn W' .i64 A' n f ∧ Only [] W W' := by
  obtain ⟨i0, hi, hz0, hz1, hz2⟩ := info_parts infoInt64
  exact copy_of _ _ Try.underlying48 hi hz0 hz1 hz2 A n c f W h hn ty

end Go.Proofs.Ytipgbbhgmoehfaa
