/-
  The contract of refresh.
-/
import Derived.Test.YtbafacdknaopjaaA1
import Derived.IntWalk
namespace Go.Proofs.Ytbafacdknaopjaa
open Go.RowKit
set_option linter.unusedSimpArgs false

/-- Nothing but these blocks has changed. -/
structure Only (gs : List Nat) (w w' : World) : Prop where
  os : w'.os = w.os
  tape : w'.tape = w.tape
  output : w'.output = w.output
  size : w.heap.size ≤ w'.heap.size
  block : ∀ k, k < w.heap.size → k ∉ gs → w'.heap[k]? = w.heap[k]?
theorem Only.refl (gs : List Nat) (w : World) : Only gs w w := ⟨rfl, rfl, rfl, Nat.le_refl _, fun _ _ _ => rfl⟩
theorem Only.trans {gs : List Nat} {a b c : World} (h : Only gs a b) (k : Only gs b c) : Only gs a c :=
  ⟨k.os.trans h.os, k.tape.trans h.tape, k.output.trans h.output, Nat.le_trans h.size k.size, fun i hi hn => (k.block i (Nat.lt_of_lt_of_le hi h.size) hn).trans (h.block i hi hn)⟩
theorem Only.mono {gs hs : List Nat} {a b : World} (h : Only gs a b) (hsub : ∀ k, k ∈ gs → k ∈ hs) : Only hs a b :=
  ⟨h.os, h.tape, h.output, h.size, fun i hi hn => h.block i hi fun hm => hn (hsub i hm)⟩
theorem Only.drewN {gs : List Nat} {a b : World} (h : Only gs a b) (n : Nat) : Only gs a (b.drewN n) := ⟨h.os, h.tape, h.output, h.size, h.block⟩
theorem Only.setCell {gs : List Nat} {a b : World} (h : Only gs a b) {g i : Nat} (hg : g ∈ gs) (v : Value) : Only gs a (b.setCell ⟨g, i, none⟩ v) :=
  ⟨h.os, h.tape, h.output, by rw [World.size_setCell]; exact h.size, fun k hk hn => (heap_setCell_other b ⟨g, i, none⟩ k v (fun e => hn (by rw [e]; exact hg))).trans (h.block k hk hn)⟩
theorem heap_lt {W : World} {g : Nat} {o : Obj} (h : W.heap[g]? = some o) : g < W.heap.size := (Array.getElem?_eq_some_iff.1 h).1
theorem T.At.lt {t : T} {w : World} (h : t.At w) : ∀ k, k ∈ t.blocks → k < w.heap.size := by
  induction t with
  | leaf => intro k hk; simp [T.blocks] at hk
  | node g l x t r ihl ihr =>
    obtain ⟨h1, h2, h3⟩ := h
    intro k hk
    simp only [T.blocks, List.mem_cons, List.mem_append] at hk
    rcases hk with rfl | hk | hk
    · exact heap_lt h1
    · exact ihl h2 k hk
    · exact ihr h3 k hk
theorem T.At.same {t : T} {w w' : World} (h : t.At w) (hs : ∀ k, k ∈ t.blocks → w'.heap[k]? = w.heap[k]?) : t.At w' := by
  induction t with
  | leaf => trivial
  | node g l x t r ihl ihr =>
    obtain ⟨h1, h2, h3⟩ := h
    refine ⟨(hs g (by simp [T.blocks])).trans h1, ihl h2 fun k hk => hs k (by simp [T.blocks, hk]), ihr h3 fun k hk => hs k (by simp [T.blocks, hk])⟩
theorem T.At.only {t : T} {w w' : World} {gs : List Nat} (h : t.At w) (ho : Only gs w w') (hd : ∀ k, k ∈ t.blocks → k ∉ gs) : t.At w' :=
  h.same fun k hk => ho.block k (h.lt k hk) (hd k hk)
theorem set_heap {W : World} {g i : Nat} {cs : Array Value} (v : Value) (h : W.heap[g]? = some (.cells cs 194 (0, 0))) : (W.setCell ⟨g, i, none⟩ v).heap[g]? = some (.cells (cs.setIfInBounds i v) 194 (0, 0)) :=
  heap_setCell_same W g i cs 194 v h

theorem run_kids0 (a b : Value) (w : World) : (Instr.index 192 (.agg #[a, b]) (.int .i64 0)).run Try.prog w = .ok a w := by
  simp [Instr.index, run_underlying Try.underlying192, asIntOf, go_sem]
theorem run_kids1 (a b : Value) (w : World) : (Instr.index 192 (.agg #[a, b]) (.int .i64 1)).run Try.prog w = .ok b w := by
  simp [Instr.index, run_underlying Try.underlying192, asIntOf, go_sem]
attribute [local go_sem] run_kids0 run_kids1
theorem node_cells {W : World} {g t : Nat} {l r : T} {x s d h : Int} (hg : W.heap[g]? = some (.cells (T.cells l x t r s d h) 194 (0, 0))) :
    W.cell? ⟨g, 0, none⟩ = some l.ptr ∧ W.cell? ⟨g, 1, none⟩ = some r.ptr ∧ W.cell? ⟨g, 2, none⟩ = some (.int .i64 x) ∧ W.cell? ⟨g, 3, none⟩ = some (.int .i64 t) ∧
    W.cell? ⟨g, 4, none⟩ = some (.int .i64 s) ∧ W.cell? ⟨g, 5, none⟩ = some (.int .i64 d) ∧ W.cell? ⟨g, 6, none⟩ = some (.int .i64 h) :=
  ⟨cell_of_heap hg rfl, cell_of_heap hg rfl, cell_of_heap hg rfl, cell_of_heap hg rfl, cell_of_heap hg rfl, cell_of_heap hg rfl, cell_of_heap hg rfl⟩
theorem set3 {W : World} {g t : Nat} {l r : T} {x s d h : Int} (hg : W.heap[g]? = some (.cells (T.cells l x t r s d h) 194 (0, 0))) (a b c : Int) :
    (((W.setCell ⟨g, 4, none⟩ (.int .i64 a)).setCell ⟨g, 5, none⟩ (.int .i64 b)).setCell ⟨g, 6, none⟩ (.int .i64 c)).heap[g]? = some (.cells (T.cells l x t r a b c) 194 (0, 0)) :=
  set_heap (i := 6) _ (set_heap (i := 5) _ (set_heap (i := 4) _ hg))
theorem Only.set3 {w W : World} {g : Nat} (h : Only [g] w W) (a b c : Int) : Only [g] w (((W.setCell ⟨g, 4, none⟩ (.int .i64 a)).setCell ⟨g, 5, none⟩ (.int .i64 b)).setCell ⟨g, 6, none⟩ (.int .i64 c)) :=
  ((h.setCell (List.mem_singleton_self g) _).setCell (List.mem_singleton_self g) _).setCell (List.mem_singleton_self g) _
/-- What refresh has gathered behind j kids. -/
def gs (l r : T) (t j : Nat) : Nat := t + (if 1 ≤ j then l.sz else 0) + (if 2 ≤ j then r.sz else 0)
def gd (l r : T) (j : Nat) : Nat := 1 + (if 1 ≤ j then l.ds else 0) + (if 2 ≤ j then r.ds else 0)
def gh (l r : T) (j : Nat) : Nat := max (if 1 ≤ j then l.ht else 0) (if 2 ≤ j then r.ht else 0)

set_option maxRecDepth 100000 in
set_option maxHeartbeats 2000000 in
theorem refresh_any (g t : Nat) (l r : T) (x s d h : Int) (w : World) (hg : w.heap[g]? = some (.cells (T.cells l x t r s d h) 194 (0, 0))) (hl : l.At w) (hr : r.At w) (hgl : g ∉ l.blocks) (hgr : g ∉ r.blocks)
    (hs : t + l.sz + r.sz ≤ 2 ^ 60) (hd : 1 + l.ds + r.ds ≤ 2 ^ 60) (hh : max l.ht r.ht + 1 ≤ 2 ^ 60) :
    Calls Try.prog 164 #[.pointer (some ⟨g, 0, none⟩)] w fun e w' => (∃ v, e = .returned v) ∧ w'.heap[g]? = some (.cells (T.cells l x t r ((t + l.sz + r.sz : Nat) : Int) ((1 + l.ds + r.ds : Nat) : Int) ((max l.ht r.ht + 1 : Nat) : Int)) 194 (0, 0)) ∧ Only [g] w w' := by
  obtain ⟨c0, c1, c2, c3, c4, c5, c6⟩ := node_cells hg
  have fz := fun i => frozen_of_heap (i := i) hg
  have HG := Lib.hid hg
  have HL := Lib.hid hl
  have HR := Lib.hid hr
  clear hg hl hr
  go_enter Try.func164, Try.ntmps164
  go_wp2
  have S1 := set_heap (i := 6) (.int .i64 0) (set_heap (i := 5) (.int .i64 1) (set_heap (i := 4) (.int .i64 (t : Nat)) HG.out))
  have O1 := ((((Only.refl [g] w).setCell (g := g) (i := 4) (List.mem_singleton_self g) (.int .i64 (t : Nat))).setCell (g := g) (i := 5) (List.mem_singleton_self g) (.int .i64 1)).setCell (g := g) (i := 6) (List.mem_singleton_self g) (.int .i64 0))
  clear c0 c1 c2 c3 c4 c5 c6 fz
  go_loopw [24] (fun i wr => ∃ j : Nat, j ≤ 2 ∧ i = .int .i64 j ∧ Hid (wr.heap[g]? = some (.cells (T.cells l x t r (gs l r t j : Nat) (gd l r j : Nat) (gh l r j : Nat)) 194 (0, 0))) ∧ Hid (Only [g] w wr)) (fun i _ => 2 - (intOf i).toNat)
  case atStart => exact ⟨0, by omega, rfl, Lib.hid S1, Lib.hid O1⟩
  case round =>
    obtain ⟨j, hj, rfl, HW, HO⟩ := hrel
    obtain ⟨c0, c1, c2, c3, c4, c5, c6⟩ := node_cells HW.out
    have fz := fun i => frozen_of_heap (i := i) HW.out
    have HLw := Lib.hid (HL.out.only HO.out (fun k hk hm => hgl (by rw [List.mem_singleton] at hm; rw [← hm]; exact hk)))
    have HRw := Lib.hid (HR.out.only HO.out (fun k hk hm => hgr (by rw [List.mem_singleton] at hm; rw [← hm]; exact hk)))
    have hj3 : j = 0 ∨ j = 1 ∨ j = 2 := by omega
    rcases hj3 with rfl | rfl | rfl
    · have e1 : gs l r t 0 = t := by simp [gs, gd, gh]
      have e2 : gs l r t 1 = t + l.sz := by simp [gs, gd, gh]
      have e3 : gd l r 0 = 1 := by simp [gs, gd, gh]
      have e4 : gd l r 1 = 1 + l.ds := by simp [gs, gd, gh]
      have e5 : gh l r 0 = 0 := by simp [gs, gd, gh]
      have e6 : gh l r 1 = l.ht := by simp [gs, gd, gh]
      rw [e1] at c4
      rw [e3] at c5
      rw [e5] at c6
      have E1 : ((gs l r t 1 : Nat) : Int) = (t : Int) + (l.sz : Int) := by rw [e2]; omega
      have E2 : ((gd l r 1 : Nat) : Int) = 1 + (l.ds : Int) := by rw [e4]; omega
      have E3 : ((gh l r 1 : Nat) : Int) = if 0 < l.ht then (l.ht : Int) else 0 := by rw [e6]; split <;> omega
      have EE := Lib.hid (And.intro E1 (And.intro E2 E3))
      clear e1 e2 e3 e4 e5 e6 E1 E2 E3
      have CS := Lib.hid (sizes_any l wr HLw.out)
      have w1 : IntKind.i64.wrap ((t : Int) + (l.sz : Int)) = (t : Int) + (l.sz : Int) := IntWalk.i64_in _ (by omega)
      have w2 : IntKind.i64.wrap (1 + (l.ds : Int)) = 1 + (l.ds : Int) := IntWalk.i64_in _ (by omega)
      go_wp2_with (go_at_call 163; refine CS.out.mono ?_; rintro e wz ⟨rfl, nz, rfl⟩)
      refine ⟨⟨1, by omega, rfl, Lib.hid ?_, Lib.hid ((HO.out.drewN nz).set3 _ _ _)⟩, by simp [intOf]⟩
      rw [EE.out.1, EE.out.2.1, EE.out.2.2]
      exact set3 (W := wr.drewN nz) HW.out _ _ _
    · have e1 : gs l r t 1 = t + l.sz := by simp [gs, gd, gh]
      have e2 : gs l r t 2 = t + l.sz + r.sz := by simp [gs, gd, gh]
      have e3 : gd l r 1 = 1 + l.ds := by simp [gs, gd, gh]
      have e4 : gd l r 2 = 1 + l.ds + r.ds := by simp [gs, gd, gh]
      have e5 : gh l r 1 = l.ht := by simp [gs, gd, gh]
      have e6 : gh l r 2 = max l.ht r.ht := by simp [gs, gd, gh]
      rw [e1] at c4
      rw [e3] at c5
      rw [e5] at c6
      rw [Int.natCast_add] at c4
      rw [Int.natCast_add] at c5
      have E1 : ((gs l r t 2 : Nat) : Int) = (t : Int) + (l.sz : Int) + (r.sz : Int) := by rw [e2]; omega
      have E2 : ((gd l r 2 : Nat) : Int) = 1 + (l.ds : Int) + (r.ds : Int) := by rw [e4]; omega
      have E3 : ((gh l r 2 : Nat) : Int) = if l.ht < r.ht then (r.ht : Int) else (l.ht : Int) := by rw [e6]; split <;> omega
      have EE := Lib.hid (And.intro E1 (And.intro E2 E3))
      clear e1 e2 e3 e4 e5 e6 E1 E2 E3
      have CS := Lib.hid (sizes_any r wr HRw.out)
      have w1 : IntKind.i64.wrap ((t : Int) + (l.sz : Int) + (r.sz : Int)) = (t : Int) + (l.sz : Int) + (r.sz : Int) := IntWalk.i64_in _ (by omega)
      have w2 : IntKind.i64.wrap (1 + (l.ds : Int) + (r.ds : Int)) = 1 + (l.ds : Int) + (r.ds : Int) := IntWalk.i64_in _ (by omega)
      go_wp2_with (go_at_call 163; refine CS.out.mono ?_; rintro e wz ⟨rfl, nz, rfl⟩)
      refine ⟨⟨2, by omega, rfl, Lib.hid ?_, Lib.hid ((HO.out.drewN nz).set3 _ _ _)⟩, by simp [intOf]⟩
      rw [EE.out.1, EE.out.2.1, EE.out.2.2]
      exact set3 (W := wr.drewN nz) HW.out _ _ _
    · have e1 : gs l r t 2 = t + l.sz + r.sz := by simp [gs]
      have e3 : gd l r 2 = 1 + l.ds + r.ds := by simp [gd]
      have e5 : gh l r 2 = max l.ht r.ht := by simp [gh]
      rw [e5] at c6
      have w1 : IntKind.i64.wrap (((max l.ht r.ht : Nat) : Int) + 1) = ((max l.ht r.ht : Nat) : Int) + 1 := IntWalk.i64_in _ (by omega)
      have HW2 := Lib.hid (set_heap (i := 6) (.int .i64 (((max l.ht r.ht : Nat) : Int) + 1)) HW.out)
      rw [e1, e3] at HW2
      generalize hM : max l.ht r.ht = M at *
      go_wp2
      go_end0
      exact ⟨⟨_, rfl⟩, by rw [hM]; exact HW2.out, HO.out.setCell (List.mem_singleton_self g) _⟩
end Go.Proofs.Ytbafacdknaopjaa
