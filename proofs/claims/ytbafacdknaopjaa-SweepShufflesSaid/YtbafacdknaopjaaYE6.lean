import Derived.Test.YtbafacdknaopjaaYE5
/-
  Rows of unsigned numbers.
-/
namespace Go.Proofs.Ytbafacdknaopjaa
open Go.RowKit
attribute [local go_sem] Oper.semAt_some
set_option linter.unusedSimpArgs false
set_option linter.unusedSectionVars false

def RowU (w : World) (g n : Nat) (f : Nat → Nat) : Prop := RowGe w g 102 n (fun i => .int .u64 (f i))
theorem RowU.cell {w : World} {g n : Nat} {f : Nat → Nat} (h : RowU w g n f) {i : Nat} (hi : i < n) : w.cell? ⟨g, i, none⟩ = some (.int .u64 (f i)) := by
  obtain ⟨c, hc, r⟩ := h
  exact cell_of_heap hc (r i hi)
theorem RowU.frozen {w : World} {g n : Nat} {f : Nat → Nat} (h : RowU w g n f) (i : Nat) : w.frozen? ⟨g, i, none⟩ = false := by
  obtain ⟨c, hc, _⟩ := h
  exact frozen_of_heap hc
theorem RowU.lt {w : World} {g n : Nat} {f : Nat → Nat} (h : RowU w g n f) : g < w.heap.size := let ⟨_, hc, _⟩ := h; heap_lt hc
theorem RowU.put {w : World} {g n : Nat} {f : Nat → Nat} (h : RowU w g n f) (i x : Nat) : RowU (w.setCell ⟨g, i, none⟩ (.int .u64 x)) g n (put f i x) :=
  (RowGe.set h i (.int .u64 x)).congr fun j _ => by
    unfold Go.Proofs.Ytbafacdknaopjaa.put
    split <;> rfl
theorem RowU.only {w w' : World} {g n : Nat} {f : Nat → Nat} (h : RowU w g n f) (ho : Only [] w w') : RowU w' g n f := by
  obtain ⟨c, hc, r⟩ := h
  exact ⟨c, (ho.block g (heap_lt hc) (by simp)).trans hc, r⟩
theorem RowU.congr {w : World} {g n : Nat} {f f' : Nat → Nat} (h : RowU w g n f) (e : ∀ i, i < n → f i = f' i) : RowU w g n f' := RowGe.congr h fun i hi => by rw [e i hi]
theorem infoU64 : (Try.prog.info? 102).map (fun i => (i.zero, i.size, i.bytes)) = some (some (.int .u64 0), 1, 8) := by kernel_rfl
theorem mk_u64 (n : Nat) (hn : n ≤ 2147483647) (w : World) : (Instr.makeSlice 94 (.int .i64 (n : Int)) (.int .i64 (n : Int))).run Try.prog w = .ok (.slice (some ⟨w.heap.size, 0, none⟩) n n) (w.alloc (.cells (madeCells #[.int .u64 0] n) 102)) :=
  run_make_row' 94 102 (.int .u64 0) 8 Try.underlying94 infoU64 rfl .i64 .i64 n (by omega) (by omega) w
theorem made_rowU {w : World} {g n : Nat} (h : w.heap[g]? = some (.cells (madeCells #[.int .u64 0] n) 102 (0, 0))) : RowU w g n (fun _ => 0) := by
  obtain ⟨c, hc, r⟩ := World.rowIs_made w (.int .u64 0) n 102
  rw [heap_alloc_new] at hc
  cases hc
  exact ⟨_, h, r.2⟩
theorem wf_of_u {x : Nat} (h : x < 18446744073709551616) : (Lit.int .u64 (x : Int)).wf = true := by simp [Lit.wf, IntKind.min, IntKind.max, IntKind.bits, IntKind.signed]; omega
theorem RowU.ints {w : World} {g n : Nat} {f : Nat → Nat} (h : RowU w g n f) (hf : ∀ j, j < n → f j < 18446744073709551616) (hn : n ≤ maxLen) : IntsIn w .u64 (some ⟨g, 0, none⟩) n (castI f) :=
  ⟨fun _ => ⟨g, 0, rfl, h.lt, fun j hj => by rw [Nat.zero_add]; exact h.cell hj⟩, fun j hj => wf_of_u (hf j hj), hn⟩
/-- All but the first. -/
theorem RowU.tail {w : World} {g n : Nat} {f : Nat → Nat} (h : RowU w g (n + 1) f) (hf : ∀ j, j < n + 1 → f j < 18446744073709551616) (hn : n ≤ maxLen) {A : Option Addr} (hA : 0 < n → A = some ⟨g, 1, none⟩) : IntsIn w .u64 A n (castI fun j => f (j + 1)) :=
  ⟨fun h0 => ⟨g, 1, hA h0, h.lt, fun j hj => by rw [Nat.add_comm]; exact h.cell (by omega)⟩, fun j hj => wf_of_u (hf (j + 1) (by omega)), hn⟩
def uL (f : Nat → Nat) (n : Nat) : List Value := (List.range n).map fun i => .int .u64 (f i)
theorem uL_congr {f g : Nat → Nat} {n : Nat} (h : ∀ j, j < n → f j = g j) : uL f n = uL g n := by
  unfold uL
  exact List.map_congr_left fun j hj => by rw [h j (List.mem_range.1 hj)]
theorem uL_two (f : Nat → Nat) (n a b : Nat) : uL (fun j => if j < n then f j else if j = n then a else b) (n + 2) = uL f n ++ [.int .u64 a, .int .u64 b] := by
  have e1 : ∀ j, j < n → (fun j => if j < n then f j else if j = n then a else b) j = f j := fun j hj => if_pos hj
  have := uL_congr e1
  unfold uL at this ⊢
  rw [List.range_succ, List.range_succ, List.map_append, List.map_append, this, List.append_assoc]
  congr 1
  simp
  rw [if_neg (by omega)]
theorem uints_own {w : World} {base n : Nat} {T : TypeId} {val : Value} {f : Nat → Nat} (h : w.ownsRow base T 1 val n (uL f n)) (hw : ∀ j, j < n → f j < 18446744073709551616) : ∃ A c, val = .slice A n c ∧ IntsIn w .u64 A n (castI f) := by
  obtain ⟨hl, ⟨rfl, rfl⟩ | ⟨g, cap, cur, rfl, hg, hh, hn, hc, hs, ht⟩⟩ := h
  · exact ⟨none, 0, rfl, fun h => by omega, fun j hj => by omega, by unfold maxLen; omega⟩
  · refine ⟨_, cap, rfl, fun h0 => ⟨g, 0, rfl, heap_lt hh, fun j hj => ?_⟩, fun j hj => wf_of_u (hw j hj), by omega⟩
    have e : (uL f n)[j]? = some (.int .u64 (f j)) := by simp [uL, hj]
    rw [← ht, List.getElem?_take, if_pos (by omega)] at e
    rw [Nat.zero_add]
    exact cell_of_heap hh (show cur[j]? = some (.int .u64 ((f j : Nat) : Int)) by simpa using e)
/-- A copy of a row by append to an empty list. -/
theorem copy_u64 (g n c : Nat) (f : Nat → Nat) (W : World) (h : RowU W g n f) (hn : n ≤ 65536) (ty : TypeId) :
    ∃ v' W', (Builtin.append_ #[94, 94] ty #[.slice (some ⟨W.heap.size, 0, none⟩) 0 0, .slice (some ⟨g, 0, none⟩) n c]).run Try.prog (W.alloc (.cells #[] 102)) = .ok v' W' ∧ W'.ownsRow W.heap.size 102 1 v' n (uL f n) ∧ Only [] W W' := by
  obtain ⟨i0, hi, hz0, hz1, hz2⟩ := info_parts infoU64
  obtain ⟨v', w1, hr, hown, hg, _⟩ := run_append_own (P := Try.prog) (W.alloc (.cells #[] 102)) W.heap.size 94 ty 102 i0 (.int .u64 0) 1 8 Try.underlying94 hi hz0 hz1 hz2 rfl (by decide) _ 0 [] (World.ownsRow_made W #[] 0 (Nat.le_refl _) (Nat.zero_le _) rfl) ⟨g, 0, none⟩ n c (uL f n) (by simp [uL])
    (fun j y hj => by
      have hjn : j < n := by
        have := (List.getElem?_eq_some_iff.1 hj).1
        simpa [uL] using this
      have e : (uL f n)[j]? = some (.int .u64 (f j)) := by simp [uL, hjn]
      rw [e] at hj
      rw [Addr.add_lit, Nat.zero_add]
      refine Lib.cell?_alloc_some _ ?_
      rw [h.cell hjn]; exact hj)
    (fun y hy => by obtain ⟨z, _, rfl⟩ := List.mem_map.1 hy; rfl) (by unfold maxLen; omega) (by omega) (by simp)
  exact ⟨v', w1, hr, by simpa using hown, made_only hg rfl⟩

end Go.Proofs.Ytbafacdknaopjaa
