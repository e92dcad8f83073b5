import Derived.WalkKit
import Derived.WalkSpells
import Derived.WalkLawsBesides
import Derived.BigQuiet
import Derived.Laws.BitsAllLaws
import Derived.Lib.Hide
import Derived.IntWalk
import Derived.Deep.RegionWith
import Derived.Test.YtipgbbhgmoehfaaRows
/-
  Trees of the bag: where they lie, and the contract of sizes.
-/
namespace Go.Proofs.Ytipgbbhgmoehfaa
open Go.RowKit

/-- A tree with the blocks of its nodes. -/
inductive T where
  | leaf
  | node (g : Nat) (l : T) (x : Int) (t : Nat) (r : T)
namespace T
def sz : T → Nat
  | leaf => 0
  | node _ l _ t r => t + l.sz + r.sz
def ds : T → Nat
  | leaf => 0
  | node _ l _ _ r => 1 + l.ds + r.ds
def ht : T → Nat
  | leaf => 0
  | node _ l _ _ r => max l.ht r.ht + 1
def addr : T → Option Addr
  | leaf => none
  | node g _ _ _ _ => some ⟨g, 0, none⟩
abbrev ptr (t : T) : Value := .pointer t.addr
def blocks : T → List Nat
  | leaf => []
  | node g l _ _ r => g :: (l.blocks ++ r.blocks)
def cells (l : T) (x : Int) (t : Nat) (r : T) (s d h : Int) : Array Value := #[l.ptr, r.ptr, .int .i64 x, .int .i64 t, .int .i64 s, .int .i64 d, .int .i64 h]
/-- The tree lies in a world. -/
def At (W : World) : T → Prop
  | leaf => True
  | node g l x t r => W.heap[g]? = some (.cells (cells l x t r ((t + l.sz + r.sz : Nat) : Int) ((1 + l.ds + r.ds : Nat) : Int) ((max l.ht r.ht + 1 : Nat) : Int)) 189 (0, 0)) ∧ At W l ∧ At W r
end T

theorem cell_of_heap {W : World} {g i : Nat} {cs : Array Value} {t : TypeId} {v : Value} (h : W.heap[g]? = some (.cells cs t (0, 0))) (hv : cs[i]? = some v) : W.cell? ⟨g, i, none⟩ = some v := by
  simp [World.cell?, h, hv]
theorem frozen_of_heap {W : World} {g i : Nat} {cs : Array Value} {t : TypeId} (h : W.heap[g]? = some (.cells cs t (0, 0))) : W.frozen? ⟨g, i, none⟩ = false := by
  simp [World.frozen?, h]

set_option maxRecDepth 100000 in
set_option maxHeartbeats 1000000 in
theorem sizes_any (t : T) (w : World) (h : t.At w) :
    Calls Try.prog 134 #[t.ptr] w fun e w' => e = .returned (.tuple #[.int .i64 t.sz, .int .i64 t.ds, .int .i64 t.ht]) ∧ ∃ n, w' = w.drewN n := by
  cases t with
  | leaf =>
    show Calls Try.prog 134 #[.pointer none] w _
    go_enter Try.func134, Try.ntmps134
    go_wp2
    go_ret3
    exact ⟨rfl, 0, rfl⟩
  | node g l x t r =>
    obtain ⟨h1, _, _⟩ := h
    have c4 := cell_of_heap (i := 4) h1 rfl
    have c5 := cell_of_heap (i := 5) h1 rfl
    have c6 := cell_of_heap (i := 6) h1 rfl
    clear h1
    show Calls Try.prog 134 #[.pointer (some ⟨g, 0, none⟩)] w _
    go_enter Try.func134, Try.ntmps134
    go_wp2
    go_quiet (fail)
    go_wp2
    go_ret3
    exact ⟨rfl, nq, rfl⟩

end Go.Proofs.Ytipgbbhgmoehfaa

/-
  The contract of refresh.
-/
namespace Go.Proofs.Ytipgbbhgmoehfaa
open Go.RowKit
set_option linter.unusedSimpArgs false

/-- Nothing but these blocks has changed. -/
structure Only (gs : List Nat) (w w' : World) : Prop where
  os : w'.os = w.os
  tape : w'.tape = w.tape
  output : w'.output = w.output
  size : w.heap.size ≤ w'.heap.size
  block : ∀ k, k < w.heap.size → k ∉ gs → w'.heap[k]? = w.heap[k]?
theorem Only.refl (gs : List Nat) (w : World) : Only gs w w := ⟨rfl, rfl, rfl, Nat.le_refl _, fun _ _ _ => rfl⟩
theorem Only.trans {gs : List Nat} {a b c : World} (h : Only gs a b) (k : Only gs b c) : Only gs a c :=
  ⟨k.os.trans h.os, k.tape.trans h.tape, k.output.trans h.output, Nat.le_trans h.size k.size, fun i hi hn => (k.block i (Nat.lt_of_lt_of_le hi h.size) hn).trans (h.block i hi hn)⟩
theorem Only.mono {gs hs : List Nat} {a b : World} (h : Only gs a b) (hsub : ∀ k, k ∈ gs → k ∈ hs) : Only hs a b :=
  ⟨h.os, h.tape, h.output, h.size, fun i hi hn => h.block i hi fun hm => hn (hsub i hm)⟩
theorem Only.drewN {gs : List Nat} {a b : World} (h : Only gs a b) (n : Nat) : Only gs a (b.drewN n) := ⟨h.os, h.tape, h.output, h.size, h.block⟩
theorem Only.setCell {gs : List Nat} {a b : World} (h : Only gs a b) {g i : Nat} (hg : g ∈ gs) (v : Value) : Only gs a (b.setCell ⟨g, i, none⟩ v) :=
  ⟨h.os, h.tape, h.output, by rw [World.size_setCell]; exact h.size, fun k hk hn => (heap_setCell_other b ⟨g, i, none⟩ k v (fun e => hn (by rw [e]; exact hg))).trans (h.block k hk hn)⟩
theorem heap_lt {W : World} {g : Nat} {o : Obj} (h : W.heap[g]? = some o) : g < W.heap.size := (Array.getElem?_eq_some_iff.1 h).1
theorem T.At.lt {t : T} {w : World} (h : t.At w) : ∀ k, k ∈ t.blocks → k < w.heap.size := by
  induction t with
  | leaf => intro k hk; simp [T.blocks] at hk
  | node g l x t r ihl ihr =>
    obtain ⟨h1, h2, h3⟩ := h
    intro k hk
    simp only [T.blocks, List.mem_cons, List.mem_append] at hk
    rcases hk with rfl | hk | hk
    · exact heap_lt h1
    · exact ihl h2 k hk
    · exact ihr h3 k hk
theorem T.At.same {t : T} {w w' : World} (h : t.At w) (hs : ∀ k, k ∈ t.blocks → w'.heap[k]? = w.heap[k]?) : t.At w' := by
  induction t with
  | leaf => trivial
  | node g l x t r ihl ihr =>
    obtain ⟨h1, h2, h3⟩ := h
    refine ⟨(hs g (by simp [T.blocks])).trans h1, ihl h2 fun k hk => hs k (by simp [T.blocks, hk]), ihr h3 fun k hk => hs k (by simp [T.blocks, hk])⟩
theorem T.At.only {t : T} {w w' : World} {gs : List Nat} (h : t.At w) (ho : Only gs w w') (hd : ∀ k, k ∈ t.blocks → k ∉ gs) : t.At w' :=
  h.same fun k hk => ho.block k (h.lt k hk) (hd k hk)
theorem set_heap {W : World} {g i : Nat} {cs : Array Value} (v : Value) (h : W.heap[g]? = some (.cells cs 189 (0, 0))) : (W.setCell ⟨g, i, none⟩ v).heap[g]? = some (.cells (cs.setIfInBounds i v) 189 (0, 0)) :=
  heap_setCell_same W g i cs 189 v h

theorem run_kids0 (a b : Value) (w : World) : (Instr.index 187 (.agg #[a, b]) (.int .i64 0)).run Try.prog w = .ok a w := by
  simp [Instr.index, run_underlying Try.underlying187, asIntOf, go_sem]
theorem run_kids1 (a b : Value) (w : World) : (Instr.index 187 (.agg #[a, b]) (.int .i64 1)).run Try.prog w = .ok b w := by
  simp [Instr.index, run_underlying Try.underlying187, asIntOf, go_sem]
attribute [local go_sem] run_kids0 run_kids1
theorem node_cells {W : World} {g t : Nat} {l r : T} {x s d h : Int} (hg : W.heap[g]? = some (.cells (T.cells l x t r s d h) 189 (0, 0))) :
    W.cell? ⟨g, 0, none⟩ = some l.ptr ∧ W.cell? ⟨g, 1, none⟩ = some r.ptr ∧ W.cell? ⟨g, 2, none⟩ = some (.int .i64 x) ∧ W.cell? ⟨g, 3, none⟩ = some (.int .i64 t) ∧
    W.cell? ⟨g, 4, none⟩ = some (.int .i64 s) ∧ W.cell? ⟨g, 5, none⟩ = some (.int .i64 d) ∧ W.cell? ⟨g, 6, none⟩ = some (.int .i64 h) :=
  ⟨cell_of_heap hg rfl, cell_of_heap hg rfl, cell_of_heap hg rfl, cell_of_heap hg rfl, cell_of_heap hg rfl, cell_of_heap hg rfl, cell_of_heap hg rfl⟩
theorem set3 {W : World} {g t : Nat} {l r : T} {x s d h : Int} (hg : W.heap[g]? = some (.cells (T.cells l x t r s d h) 189 (0, 0))) (a b c : Int) :
    (((W.setCell ⟨g, 4, none⟩ (.int .i64 a)).setCell ⟨g, 5, none⟩ (.int .i64 b)).setCell ⟨g, 6, none⟩ (.int .i64 c)).heap[g]? = some (.cells (T.cells l x t r a b c) 189 (0, 0)) :=
  set_heap (i := 6) _ (set_heap (i := 5) _ (set_heap (i := 4) _ hg))
theorem Only.set3 {w W : World} {g : Nat} (h : Only [g] w W) (a b c : Int) : Only [g] w (((W.setCell ⟨g, 4, none⟩ (.int .i64 a)).setCell ⟨g, 5, none⟩ (.int .i64 b)).setCell ⟨g, 6, none⟩ (.int .i64 c)) :=
  ((h.setCell (List.mem_singleton_self g) _).setCell (List.mem_singleton_self g) _).setCell (List.mem_singleton_self g) _
/-- What refresh has gathered behind j kids. -/
def gs (l r : T) (t j : Nat) : Nat := t + (if 1 ≤ j then l.sz else 0) + (if 2 ≤ j then r.sz else 0)
def gd (l r : T) (j : Nat) : Nat := 1 + (if 1 ≤ j then l.ds else 0) + (if 2 ≤ j then r.ds else 0)
def gh (l r : T) (j : Nat) : Nat := max (if 1 ≤ j then l.ht else 0) (if 2 ≤ j then r.ht else 0)

set_option maxRecDepth 100000 in
set_option maxHeartbeats 2000000 in
theorem refresh_any (g t : Nat) (l r : T) (x s d h : Int) (w : World) (hg : w.heap[g]? = some (.cells (T.cells l x t r s d h) 189 (0, 0))) (hl : l.At w) (hr : r.At w) (hgl : g ∉ l.blocks) (hgr : g ∉ r.blocks)
    (hs : t + l.sz + r.sz ≤ 2 ^ 60) (hd : 1 + l.ds + r.ds ≤ 2 ^ 60) (hh : max l.ht r.ht + 1 ≤ 2 ^ 60) :
    Calls Try.prog 135 #[.pointer (some ⟨g, 0, none⟩)] w fun e w' => (∃ v, e = .returned v) ∧ w'.heap[g]? = some (.cells (T.cells l x t r ((t + l.sz + r.sz : Nat) : Int) ((1 + l.ds + r.ds : Nat) : Int) ((max l.ht r.ht + 1 : Nat) : Int)) 189 (0, 0)) ∧ Only [g] w w' := by
  obtain ⟨c0, c1, c2, c3, c4, c5, c6⟩ := node_cells hg
  have fz := fun i => frozen_of_heap (i := i) hg
  have HG := Lib.hid hg
  have HL := Lib.hid hl
  have HR := Lib.hid hr
  clear hg hl hr
  go_enter Try.func135, Try.ntmps135
  go_wp2
  have S1 := set_heap (i := 6) (.int .i64 0) (set_heap (i := 5) (.int .i64 1) (set_heap (i := 4) (.int .i64 (t : Nat)) HG.out))
  have O1 := ((((Only.refl [g] w).setCell (g := g) (i := 4) (List.mem_singleton_self g) (.int .i64 (t : Nat))).setCell (g := g) (i := 5) (List.mem_singleton_self g) (.int .i64 1)).setCell (g := g) (i := 6) (List.mem_singleton_self g) (.int .i64 0))
  clear c0 c1 c2 c3 c4 c5 c6 fz
  go_loopw [24] (fun i wr => ∃ j : Nat, j ≤ 2 ∧ i = .int .i64 j ∧ Hid (wr.heap[g]? = some (.cells (T.cells l x t r (gs l r t j : Nat) (gd l r j : Nat) (gh l r j : Nat)) 189 (0, 0))) ∧ Hid (Only [g] w wr)) (fun i _ => 2 - (intOf i).toNat)
  case atStart => exact ⟨0, by omega, rfl, Lib.hid S1, Lib.hid O1⟩
  case round =>
    obtain ⟨j, hj, rfl, HW, HO⟩ := hrel
    obtain ⟨c0, c1, c2, c3, c4, c5, c6⟩ := node_cells HW.out
    have fz := fun i => frozen_of_heap (i := i) HW.out
    have HLw := Lib.hid (HL.out.only HO.out (fun k hk hm => hgl (by rw [List.mem_singleton] at hm; rw [← hm]; exact hk)))
    have HRw := Lib.hid (HR.out.only HO.out (fun k hk hm => hgr (by rw [List.mem_singleton] at hm; rw [← hm]; exact hk)))
    have hj3 : j = 0 ∨ j = 1 ∨ j = 2 := by omega
    rcases hj3 with rfl | rfl | rfl
    · have e1 : gs l r t 0 = t := by simp [gs, gd, gh]
      have e2 : gs l r t 1 = t + l.sz := by simp [gs, gd, gh]
      have e3 : gd l r 0 = 1 := by simp [gs, gd, gh]
      have e4 : gd l r 1 = 1 + l.ds := by simp [gs, gd, gh]
      have e5 : gh l r 0 = 0 := by simp [gs, gd, gh]
      have e6 : gh l r 1 = l.ht := by simp [gs, gd, gh]
      rw [e1] at c4
      rw [e3] at c5
      rw [e5] at c6
      have E1 : ((gs l r t 1 : Nat) : Int) = (t : Int) + (l.sz : Int) := by rw [e2]; omega
      have E2 : ((gd l r 1 : Nat) : Int) = 1 + (l.ds : Int) := by rw [e4]; omega
      have E3 : ((gh l r 1 : Nat) : Int) = if 0 < l.ht then (l.ht : Int) else 0 := by rw [e6]; split <;> omega
      have EE := Lib.hid (And.intro E1 (And.intro E2 E3))
      clear e1 e2 e3 e4 e5 e6 E1 E2 E3
      have CS := Lib.hid (sizes_any l wr HLw.out)
      have w1 : IntKind.i64.wrap ((t : Int) + (l.sz : Int)) = (t : Int) + (l.sz : Int) := IntWalk.i64_in _ (by omega)
      have w2 : IntKind.i64.wrap (1 + (l.ds : Int)) = 1 + (l.ds : Int) := IntWalk.i64_in _ (by omega)
      go_wp2_with (go_at_call 134; refine CS.out.mono ?_; rintro e wz ⟨rfl, nz, rfl⟩)
      refine ⟨⟨1, by omega, rfl, Lib.hid ?_, Lib.hid ((HO.out.drewN nz).set3 _ _ _)⟩, by simp [intOf]⟩
      rw [EE.out.1, EE.out.2.1, EE.out.2.2]
      exact set3 (W := wr.drewN nz) HW.out _ _ _
    · have e1 : gs l r t 1 = t + l.sz := by simp [gs, gd, gh]
      have e2 : gs l r t 2 = t + l.sz + r.sz := by simp [gs, gd, gh]
      have e3 : gd l r 1 = 1 + l.ds := by simp [gs, gd, gh]
      have e4 : gd l r 2 = 1 + l.ds + r.ds := by simp [gs, gd, gh]
      have e5 : gh l r 1 = l.ht := by simp [gs, gd, gh]
      have e6 : gh l r 2 = max l.ht r.ht := by simp [gs, gd, gh]
      rw [e1] at c4
      rw [e3] at c5
      rw [e5] at c6
      rw [Int.natCast_add] at c4
      rw [Int.natCast_add] at c5
      have E1 : ((gs l r t 2 : Nat) : Int) = (t : Int) + (l.sz : Int) + (r.sz : Int) := by rw [e2]; omega
      have E2 : ((gd l r 2 : Nat) : Int) = 1 + (l.ds : Int) + (r.ds : Int) := by rw [e4]; omega
      have E3 : ((gh l r 2 : Nat) : Int) = if l.ht < r.ht then (r.ht : Int) else (l.ht : Int) := by rw [e6]; split <;> omega
      have EE := Lib.hid (And.intro E1 (And.intro E2 E3))
      clear e1 e2 e3 e4 e5 e6 E1 E2 E3
      have CS := Lib.hid (sizes_any r wr HRw.out)
      have w1 : IntKind.i64.wrap ((t : Int) + (l.sz : Int) + (r.sz : Int)) = (t : Int) + (l.sz : Int) + (r.sz : Int) := IntWalk.i64_in _ (by omega)
      have w2 : IntKind.i64.wrap (1 + (l.ds : Int) + (r.ds : Int)) = 1 + (l.ds : Int) + (r.ds : Int) := IntWalk.i64_in _ (by omega)
      go_wp2_with (go_at_call 134; refine CS.out.mono ?_; rintro e wz ⟨rfl, nz, rfl⟩)
      refine ⟨⟨2, by omega, rfl, Lib.hid ?_, Lib.hid ((HO.out.drewN nz).set3 _ _ _)⟩, by simp [intOf]⟩
      rw [EE.out.1, EE.out.2.1, EE.out.2.2]
      exact set3 (W := wr.drewN nz) HW.out _ _ _
    · have e1 : gs l r t 2 = t + l.sz + r.sz := by simp [gs]
      have e3 : gd l r 2 = 1 + l.ds + r.ds := by simp [gd]
      have e5 : gh l r 2 = max l.ht r.ht := by simp [gh]
      rw [e5] at c6
      have w1 : IntKind.i64.wrap (((max l.ht r.ht : Nat) : Int) + 1) = ((max l.ht r.ht : Nat) : Int) + 1 := IntWalk.i64_in _ (by omega)
      have HW2 := Lib.hid (set_heap (i := 6) (.int .i64 (((max l.ht r.ht : Nat) : Int) + 1)) HW.out)
      rw [e1, e3] at HW2
      generalize hM : max l.ht r.ht = M at *
      go_wp2
      go_end0
      exact ⟨⟨_, rfl⟩, by rw [hM]; exact HW2.out, HO.out.setCell (List.mem_singleton_self g) _⟩

end Go.Proofs.Ytipgbbhgmoehfaa

/-
  The contract of rotate.
-/
namespace Go.Proofs.Ytipgbbhgmoehfaa
open Go.RowKit

theorem ht_le (t : T) : t.ht ≤ t.ds := by
  induction t with
  | leaf => exact Nat.le_refl _
  | node g l x t r ihl ihr => simp only [T.ht, T.ds]; omega
theorem set_other {W : World} {g k i : Nat} {o : Obj} (v : Value) (h : W.heap[k]? = some o) (hne : k ≠ g) : (W.setCell ⟨g, i, none⟩ v).heap[k]? = some o :=
  (heap_setCell_other W ⟨g, i, none⟩ k v hne).trans h
theorem T.At.set {t : T} {w : World} (h : t.At w) {g i : Nat} (v : Value) (hg : g ∉ t.blocks) : t.At (w.setCell ⟨g, i, none⟩ v) :=
  h.same fun k hk => heap_setCell_other w ⟨g, i, none⟩ k v fun e => hg ((show k = g from e) ▸ hk)

theorem T.At.drew {t : T} {w : World} (h : t.At w) : t.At w.drew := h.same fun _ _ => rfl

set_option maxRecDepth 100000 in
set_option maxHeartbeats 2000000 in
theorem rotate0_any (g gk t u : Nat) (a b r : T) (x y s d h s2 d2 h2 : Int) (w : World)
    (hg : w.heap[g]? = some (.cells (T.cells (.node gk a y u b) x t r s d h) 189 (0, 0))) (hk : w.heap[gk]? = some (.cells (T.cells a y u b s2 d2 h2) 189 (0, 0)))
    (ha : a.At w) (hb : b.At w) (hr : r.At w) (hnd : (T.node g (.node gk a y u b) x t r).blocks.Nodup)
    (hs : t + (u + a.sz + b.sz) + r.sz ≤ 2 ^ 60) (hd : 1 + (1 + a.ds + b.ds) + r.ds ≤ 2 ^ 60) :
    Calls Try.prog 149 #[.pointer (some ⟨g, 0, none⟩), .int .i64 0] w fun e w' => e = .returned (.pointer (some ⟨gk, 0, none⟩)) ∧ (T.node gk a y u (.node g b x t r)).At w' ∧ Only (T.node g (.node gk a y u b) x t r).blocks w w' := by
  obtain ⟨c0, c1, _⟩ := node_cells hg
  obtain ⟨k0, k1, _⟩ := node_cells hk
  have fz := fun i => frozen_of_heap (i := i) hg
  have fk := fun i => frozen_of_heap (i := i) hk
  have hne : g ≠ gk := by
    intro e
    simp only [T.blocks, List.nodup_cons, List.mem_append, List.mem_cons] at hnd
    exact hnd.1 (.inl (.inl e))
  have hne2 : gk ≠ g := fun e => hne e.symm
  have HG := Lib.hid hg
  have HK := Lib.hid hk
  have HA := Lib.hid ha
  have HB := Lib.hid hb
  have HR := Lib.hid hr
  have HN := Lib.hid hnd
  clear hg hk ha hb hr hnd
  have z0 := fz 0
  have z1 := fk 1
  clear fz fk
  replace c0 : w.cell? ⟨g, 0, none⟩ = some (.pointer (some ⟨gk, 0, none⟩)) := c0
  go_enter Try.func149, Try.ntmps149
  go_wp2
  go_region
  go_wp2_with fail
  have G1 := set_other (g := gk) (i := 1) (.pointer (some ⟨g, 0, none⟩)) (set_heap (i := 0) b.ptr HG.out) hne
  have K1 := set_heap (i := 1) (.pointer (some ⟨g, 0, none⟩)) (set_other (g := g) (i := 0) b.ptr HK.out hne2)
  have hn := HN.out
  simp only [T.blocks, List.nodup_cons, List.mem_append, List.mem_cons, List.cons_append, not_or] at hn
  obtain ⟨⟨_, ⟨hga, hgb⟩, hgr⟩, ⟨⟨hka, hkb⟩, hkr⟩, hnab⟩ := hn
  have B1 := (HB.out.set (g := g) (i := 0) b.ptr hgb).set (g := gk) (i := 1) (.pointer (some ⟨g, 0, none⟩)) hkb
  have R1 := (HR.out.set (g := g) (i := 0) b.ptr hgr).set (g := gk) (i := 1) (.pointer (some ⟨g, 0, none⟩)) hkr
  have A1 := (HA.out.set (g := g) (i := 0) b.ptr hga).set (g := gk) (i := 1) (.pointer (some ⟨g, 0, none⟩)) hka
  have l1 := ht_le b
  have l2 := ht_le r
  have l3 := ht_le a
  refine (refresh_any g t b r x s d h (World.drew _) (by exact G1) B1.drew R1.drew hgb hgr (by omega) (by omega) (by omega)).mono ?_
  rintro e w1 ⟨⟨v, rfl⟩, hg1, ho1⟩
  have nin : ∀ {t : T}, g ∉ t.blocks → ∀ k, k ∈ t.blocks → k ∉ [g] := fun h k hk hm => h (by rw [List.mem_singleton] at hm; rw [← hm]; exact hk)
  have nin2 : ∀ {t : T}, gk ∉ t.blocks → ∀ k, k ∈ t.blocks → k ∉ [gk] := fun h k hk hm => h (by rw [List.mem_singleton] at hm; rw [← hm]; exact hk)
  have N1 : (T.node g b x t r).At w1 := ⟨hg1, B1.drew.only ho1 (nin hgb), R1.drew.only ho1 (nin hgr)⟩
  have A2 := A1.drew.only ho1 (nin hga)
  have K2 := (ho1.block gk (heap_lt (show (World.drew _).heap[gk]? = _ from K1)) (fun hm => hne2 (List.mem_singleton.1 hm))).trans K1
  go_wp2_with fail
  refine (refresh_any gk u a (T.node g b x t r) y s2 d2 h2 w1 (by exact K2) A2 N1 hka (by simp only [T.blocks, List.mem_cons, List.mem_append, not_or]; exact ⟨hne2, hkb, hkr⟩) (by simp only [T.sz]; omega) (by simp only [T.ds]; omega) (by simp only [T.ht]; omega)).mono ?_
  rintro e w2 ⟨⟨v2, rfl⟩, hg2, ho2⟩
  go_wp2
  go_ret
  refine ⟨rfl, ⟨hg2, A2.only ho2 (nin2 hka), N1.only ho2 (nin2 (by simp only [T.blocks, List.mem_cons, List.mem_append, not_or]; exact ⟨hne2, hkb, hkr⟩))⟩, ?_⟩
  have mg : g ∈ (T.node g (.node gk a y u b) x t r).blocks := by simp [T.blocks]
  have mk : gk ∈ (T.node g (.node gk a y u b) x t r).blocks := by simp [T.blocks]
  exact ((((((Only.refl _ w).setCell mg _).setCell mk _).drewN 1).trans (ho1.mono fun k hk => by rw [List.mem_singleton.1 hk]; exact mg)).trans (ho2.mono fun k hk => by rw [List.mem_singleton.1 hk]; exact mk))
set_option maxRecDepth 100000 in
set_option maxHeartbeats 2000000 in
theorem rotate1_any (g gk t u : Nat) (a b r : T) (x y s d h s2 d2 h2 : Int) (w : World)
    (hg : w.heap[g]? = some (.cells (T.cells r x t (.node gk a y u b) s d h) 189 (0, 0))) (hk : w.heap[gk]? = some (.cells (T.cells a y u b s2 d2 h2) 189 (0, 0)))
    (ha : a.At w) (hb : b.At w) (hr : r.At w) (hnd : (T.node g r x t (.node gk a y u b)).blocks.Nodup)
    (hs : t + r.sz + (u + a.sz + b.sz) ≤ 2 ^ 60) (hd : 1 + r.ds + (1 + a.ds + b.ds) ≤ 2 ^ 60) :
    Calls Try.prog 149 #[.pointer (some ⟨g, 0, none⟩), .int .i64 1] w fun e w' => e = .returned (.pointer (some ⟨gk, 0, none⟩)) ∧ (T.node gk (.node g r x t a) y u b).At w' ∧ Only (T.node g r x t (.node gk a y u b)).blocks w w' := by
  obtain ⟨c0, c1, _⟩ := node_cells hg
  obtain ⟨k0, k1, _⟩ := node_cells hk
  have fz := fun i => frozen_of_heap (i := i) hg
  have fk := fun i => frozen_of_heap (i := i) hk
  have hne : g ≠ gk := by
    intro e
    simp only [T.blocks, List.nodup_cons, List.mem_append, List.mem_cons] at hnd
    exact hnd.1 (.inr (.inl e))
  have hne2 : gk ≠ g := fun e => hne e.symm
  have HG := Lib.hid hg
  have HK := Lib.hid hk
  have HA := Lib.hid ha
  have HB := Lib.hid hb
  have HR := Lib.hid hr
  have HN := Lib.hid hnd
  clear hg hk ha hb hr hnd
  have z0 := fz 1
  have z1 := fk 0
  clear fz fk
  replace c1 : w.cell? ⟨g, 1, none⟩ = some (.pointer (some ⟨gk, 0, none⟩)) := c1
  go_enter Try.func149, Try.ntmps149
  go_wp2
  go_region
  go_wp2_with fail
  have G1 := set_other (g := gk) (i := 0) (.pointer (some ⟨g, 0, none⟩)) (set_heap (i := 1) a.ptr HG.out) hne
  have K1 := set_heap (i := 0) (.pointer (some ⟨g, 0, none⟩)) (set_other (g := g) (i := 1) a.ptr HK.out hne2)
  have hn := HN.out
  simp only [T.blocks, List.nodup_cons, List.mem_append, List.mem_cons, not_or] at hn
  obtain ⟨⟨hgr, _, hga, hgb⟩, hn2⟩ := hn
  have hkk := List.nodup_append.1 hn2
  have hkr : gk ∉ r.blocks := fun hm => hkk.2.2 gk hm gk (by simp) rfl
  have hkc := List.nodup_cons.1 hkk.2.1
  have hka : gk ∉ a.blocks := fun hm => hkc.1 (List.mem_append_left _ hm)
  have hkb : gk ∉ b.blocks := fun hm => hkc.1 (List.mem_append_right _ hm)
  have B1 := (HB.out.set (g := g) (i := 1) a.ptr hgb).set (g := gk) (i := 0) (.pointer (some ⟨g, 0, none⟩)) hkb
  have R1 := (HR.out.set (g := g) (i := 1) a.ptr hgr).set (g := gk) (i := 0) (.pointer (some ⟨g, 0, none⟩)) hkr
  have A1 := (HA.out.set (g := g) (i := 1) a.ptr hga).set (g := gk) (i := 0) (.pointer (some ⟨g, 0, none⟩)) hka
  have l1 := ht_le b
  have l2 := ht_le r
  have l3 := ht_le a
  refine (refresh_any g t r a x s d h (World.drew _) (by exact G1) R1.drew A1.drew hgr hga (by omega) (by omega) (by omega)).mono ?_
  rintro e w1 ⟨⟨v, rfl⟩, hg1, ho1⟩
  have nin : ∀ {t : T}, g ∉ t.blocks → ∀ k, k ∈ t.blocks → k ∉ [g] := fun h k hk hm => h (by rw [List.mem_singleton] at hm; rw [← hm]; exact hk)
  have nin2 : ∀ {t : T}, gk ∉ t.blocks → ∀ k, k ∈ t.blocks → k ∉ [gk] := fun h k hk hm => h (by rw [List.mem_singleton] at hm; rw [← hm]; exact hk)
  have N1 : (T.node g r x t a).At w1 := ⟨hg1, R1.drew.only ho1 (nin hgr), A1.drew.only ho1 (nin hga)⟩
  have B2 := B1.drew.only ho1 (nin hgb)
  have K2 := (ho1.block gk (heap_lt (show (World.drew _).heap[gk]? = _ from K1)) (fun hm => hne2 (List.mem_singleton.1 hm))).trans K1
  go_wp2_with fail
  refine (refresh_any gk u (T.node g r x t a) b y s2 d2 h2 w1 (by exact K2) N1 B2 (by simp only [T.blocks, List.mem_cons, List.mem_append, not_or]; exact ⟨hne2, hkr, hka⟩) hkb (by simp only [T.sz]; omega) (by simp only [T.ds]; omega) (by simp only [T.ht]; omega)).mono ?_
  rintro e w2 ⟨⟨v2, rfl⟩, hg2, ho2⟩
  go_wp2
  go_ret
  refine ⟨rfl, ⟨hg2, N1.only ho2 (nin2 (by simp only [T.blocks, List.mem_cons, List.mem_append, not_or]; exact ⟨hne2, hkr, hka⟩)), B2.only ho2 (nin2 hkb)⟩, ?_⟩
  have mg : g ∈ (T.node g r x t (.node gk a y u b)).blocks := by simp [T.blocks]
  have mk : gk ∈ (T.node g r x t (.node gk a y u b)).blocks := by simp [T.blocks]
  exact ((((((Only.refl _ w).setCell mg _).setCell mk _).drewN 1).trans (ho1.mono fun k hk => by rw [List.mem_singleton.1 hk]; exact mg)).trans (ho2.mono fun k hk => by rw [List.mem_singleton.1 hk]; exact mk))

end Go.Proofs.Ytipgbbhgmoehfaa

/-
  The contract of balance.
-/
namespace Go.Proofs.Ytipgbbhgmoehfaa
open Go.RowKit
set_option linter.unusedSimpArgs false

theorem T.At.drewN {t : T} {w : World} (h : t.At w) (n : Nat) : t.At (w.drewN n) := h.same fun _ _ => rfl

namespace T
def kid0 : T → T
  | leaf => leaf
  | node _ l _ _ _ => l
def kid1 : T → T
  | leaf => leaf
  | node _ _ _ _ r => r
def rot0 : T → T
  | node g (node gk a y u b) x t r => node gk a y u (node g b x t r)
  | t => t
def rot1 : T → T
  | node g l x t (node gk a y u b) => node gk (node g l x t a) y u b
  | t => t
def bal : T → T
  | leaf => leaf
  | node g l x t r =>
    if r.ht + 1 < l.ht then rot0 (node g (if l.kid0.ht < l.kid1.ht then rot1 l else l) x t r)
    else if l.ht + 1 < r.ht then rot1 (node g l x t (if r.kid1.ht < r.kid0.ht then rot0 r else r))
    else node g l x t r
end T

set_option maxRecDepth 100000 in
set_option maxHeartbeats 2000000 in
theorem bal_no (g t : Nat) (l r : T) (x s d h : Int) (w : World) (hg : w.heap[g]? = some (.cells (T.cells l x t r s d h) 189 (0, 0))) (hl : l.At w) (hr : r.At w) (hgl : g ∉ l.blocks) (hgr : g ∉ r.blocks)
    (hs : t + l.sz + r.sz ≤ 2 ^ 60) (hd : 1 + l.ds + r.ds ≤ 2 ^ 60) (h1 : l.ht ≤ r.ht + 1) (h2 : r.ht ≤ l.ht + 1) :
    Calls Try.prog 137 #[.pointer (some ⟨g, 0, none⟩)] w fun e w' => e = .returned (.pointer (some ⟨g, 0, none⟩)) ∧ (T.node g l x t r).At w' ∧ Only [g] w w' := by
  have l1 := ht_le l
  have l2 := ht_le r
  obtain ⟨c0, c1, c2, c3, c4, c5, c6⟩ := node_cells hg
  have HG := Lib.hid hg
  have HL := Lib.hid hl
  have HR := Lib.hid hr
  clear hg hl hr
  have CL := Lib.hid (fun W (h : l.At W) => sizes_any l W h)
  have CR := Lib.hid (fun W (h : r.At W) => sizes_any r W h)
  have w1 : IntKind.i64.wrap ((r.ht : Int) + 1) = (r.ht : Int) + 1 := IntWalk.i64_in _ (by omega)
  go_enter Try.func137, Try.ntmps137
  go_wp2
  refine wp_loop_rounds 3 ?_; rw [rounds_succ]
  go_wp2_with fail
  refine (CL.out _ HL.out).mono ?_
  rintro e wz ⟨rfl, n1, rfl⟩
  go_wp2_with fail
  refine (CR.out _ (HR.out.drewN _)).mono ?_
  rintro e wz ⟨rfl, n2, rfl⟩
  go_wp2_with fail
  rw [rounds_succ]
  go_wp2_with fail
  refine (CR.out _ (HR.out.drewN _)).mono ?_
  rintro e wz ⟨rfl, n3, rfl⟩
  go_wp2_with fail
  refine (CL.out _ (HL.out.drewN _)).mono ?_
  rintro e wz ⟨rfl, n4, rfl⟩
  go_wp2_with fail
  rw [rounds_succ]
  go_wp2_with fail
  refine (refresh_any g t l r x s d h _ (by exact HG.out) (HL.out.drewN _) (HR.out.drewN _) hgl hgr (by omega) (by omega) (by omega)).mono ?_
  rintro e w1 ⟨⟨v, rfl⟩, hg1, ho1⟩
  have nin : ∀ {t : T}, g ∉ t.blocks → ∀ k, k ∈ t.blocks → k ∉ [g] := fun h k hk hm => h (by rw [List.mem_singleton] at hm; rw [← hm]; exact hk)
  go_wp2
  go_ret
  exact ⟨rfl, ⟨hg1, (HL.out.drewN _).only ho1 (nin hgl), (HR.out.drewN _).only ho1 (nin hgr)⟩, ((Only.refl _ w).drewN _).trans ho1⟩

set_option maxRecDepth 100000 in
set_option maxHeartbeats 2000000 in
theorem bal_l0 (g gk t u : Nat) (a b r : T) (x y s d h : Int) (w : World) (hg : w.heap[g]? = some (.cells (T.cells (.node gk a y u b) x t r s d h) 189 (0, 0))) (hl : (T.node gk a y u b).At w) (hr : r.At w)
    (hnd : (T.node g (.node gk a y u b) x t r).blocks.Nodup) (hs : t + (u + a.sz + b.sz) + r.sz ≤ 2 ^ 60) (hd : 1 + (1 + a.ds + b.ds) + r.ds ≤ 2 ^ 60) (h1 : r.ht + 1 < (T.node gk a y u b).ht) (h2 : b.ht ≤ a.ht) :
    Calls Try.prog 137 #[.pointer (some ⟨g, 0, none⟩)] w fun e w' => e = .returned (.pointer (some ⟨gk, 0, none⟩)) ∧ (T.node gk a y u (.node g b x t r)).At w' ∧ Only (T.node g (.node gk a y u b) x t r).blocks w w' := by
  have l3 := ht_le r
  obtain ⟨c0, c1, c2, c3, c4, c5, c6⟩ := node_cells hg
  obtain ⟨hk, ha, hb⟩ := id hl
  obtain ⟨k0, k1, k2, k3, k4, k5, k6⟩ := node_cells hk
  have HG := Lib.hid hg
  have HL := Lib.hid hl
  have HA := Lib.hid ha
  have HB := Lib.hid hb
  have HK := Lib.hid hk
  have HR := Lib.hid hr
  have HN := Lib.hid hnd
  clear hg hl hr ha hb hk hnd
  have CL := Lib.hid (fun W (h : (T.node gk a y u b).At W) => sizes_any (T.node gk a y u b) W h)
  have CR := Lib.hid (fun W (h : r.At W) => sizes_any r W h)
  have CA := Lib.hid (fun W (h : a.At W) => sizes_any a W h)
  have CB := Lib.hid (fun W (h : b.At W) => sizes_any b W h)
  have w1 : IntKind.i64.wrap ((r.ht : Int) + 1) = (r.ht : Int) + 1 := IntWalk.i64_in _ (by omega)
  replace c0 : w.cell? ⟨g, 0, none⟩ = some (.pointer (some ⟨gk, 0, none⟩)) := c0
  go_enter Try.func137, Try.ntmps137
  go_wp2
  refine wp_loop_rounds 1 ?_; rw [rounds_succ]
  go_wp2_with fail
  refine (CL.out _ HL.out).mono ?_
  rintro e wz ⟨rfl, n1, rfl⟩
  go_wp2_with fail
  refine (CR.out _ (HR.out.drewN _)).mono ?_
  rintro e wz ⟨rfl, n2, rfl⟩
  go_wp2_with fail
  refine (CB.out _ (HB.out.drewN _)).mono ?_
  rintro e wz ⟨rfl, n3, rfl⟩
  go_wp2_with fail
  refine (CA.out _ (HA.out.drewN _)).mono ?_
  rintro e wz ⟨rfl, n4, rfl⟩
  go_wp2_with fail
  refine (rotate0_any g gk t u a b r x y s d h _ _ _ _ (by exact HG.out) (by exact HK.out) (HA.out.drewN _) (HB.out.drewN _) (HR.out.drewN _) HN.out hs hd).mono ?_
  rintro e w1 ⟨rfl, hA1, hO1⟩
  go_wp2
  go_ret
  exact ⟨rfl, hA1, ((Only.refl _ w).drewN _).trans hO1⟩

theorem perm_l1 (g gk gm : Nat) (a p q r : T) (x y z : Int) (t u v : Nat) : (T.node g (T.node gm (T.node gk a y u p) z v q) x t r).blocks.Perm (T.node g (T.node gk a y u (T.node gm p z v q)) x t r).blocks := by
  simp only [T.blocks, List.cons_append, List.append_assoc]
  refine .cons g ?_
  refine (List.Perm.swap gk gm _).trans (.cons gk ?_)
  exact List.perm_middle.symm

set_option maxRecDepth 100000 in
set_option maxHeartbeats 2000000 in
theorem bal_l1 (g gk gm t u v : Nat) (a p q r : T) (x y z s d h : Int) (w : World) (hg : w.heap[g]? = some (.cells (T.cells (.node gk a y u (.node gm p z v q)) x t r s d h) 189 (0, 0))) (hl : (T.node gk a y u (.node gm p z v q)).At w) (hr : r.At w)
    (hnd : (T.node g (.node gk a y u (.node gm p z v q)) x t r).blocks.Nodup) (hs : t + (u + a.sz + (v + p.sz + q.sz)) + r.sz ≤ 2 ^ 60) (hd : 1 + (1 + a.ds + (1 + p.ds + q.ds)) + r.ds ≤ 2 ^ 60) (h1 : r.ht + 1 < (T.node gk a y u (.node gm p z v q)).ht) (h2 : a.ht < (T.node gm p z v q).ht) :
    Calls Try.prog 137 #[.pointer (some ⟨g, 0, none⟩)] w fun e w' => e = .returned (.pointer (some ⟨gm, 0, none⟩)) ∧ (T.node gm (.node gk a y u p) z v (.node g q x t r)).At w' ∧ Only (T.node g (.node gk a y u (.node gm p z v q)) x t r).blocks w w' := by
  have l3 := ht_le r
  obtain ⟨c0, c1, c2, c3, c4, c5, c6⟩ := node_cells hg
  obtain ⟨hk, ha, hb⟩ := id hl
  obtain ⟨k0, k1, k2, k3, k4, k5, k6⟩ := node_cells hk
  obtain ⟨hm, hp, hq⟩ := id hb
  have HM := Lib.hid hm
  have HP := Lib.hid hp
  have HQ := Lib.hid hq
  clear hm hp hq
  have HG := Lib.hid hg
  have HL := Lib.hid hl
  have HA := Lib.hid ha
  have HB := Lib.hid hb
  have HK := Lib.hid hk
  have HR := Lib.hid hr
  have HN := Lib.hid hnd
  clear hg hl hr ha hb hk hnd
  have CL := Lib.hid (fun W (h : (T.node gk a y u (.node gm p z v q)).At W) => sizes_any (T.node gk a y u (.node gm p z v q)) W h)
  have CR := Lib.hid (fun W (h : r.At W) => sizes_any r W h)
  have CA := Lib.hid (fun W (h : a.At W) => sizes_any a W h)
  have CB := Lib.hid (fun W (h : (T.node gm p z v q).At W) => sizes_any (T.node gm p z v q) W h)
  have w1 : IntKind.i64.wrap ((r.ht : Int) + 1) = (r.ht : Int) + 1 := IntWalk.i64_in _ (by omega)
  replace c0 : w.cell? ⟨g, 0, none⟩ = some (.pointer (some ⟨gk, 0, none⟩)) := c0
  go_enter Try.func137, Try.ntmps137
  go_wp2
  refine wp_loop_rounds 1 ?_; rw [rounds_succ]
  go_wp2_with fail
  refine (CL.out _ HL.out).mono ?_
  rintro e wz ⟨rfl, n1, rfl⟩
  go_wp2_with fail
  refine (CR.out _ (HR.out.drewN _)).mono ?_
  rintro e wz ⟨rfl, n2, rfl⟩
  go_wp2_with fail
  refine (CB.out _ (HB.out.drewN _)).mono ?_
  rintro e wz ⟨rfl, n3, rfl⟩
  go_wp2_with fail
  refine (CA.out _ (HA.out.drewN _)).mono ?_
  rintro e wz ⟨rfl, n4, rfl⟩
  go_wp2_with fail
  have zg := frozen_of_heap (i := 0) HG.out
  replace k1 : w.cell? ⟨gk, 1, none⟩ = some (.pointer (some ⟨gm, 0, none⟩)) := k1
  have hn := HN.out
  simp only [T.blocks, List.nodup_cons, List.mem_cons, List.mem_append, not_or, List.cons_append] at hn
  obtain ⟨⟨hn1, ⟨hna, hn2, hnp, hnq⟩, hnr⟩, ⟨⟨hka, hkm, hkp, hkq⟩, hkr⟩, hnab⟩ := hn
  have NK : (T.node gk a y u (.node gm p z v q)).blocks.Nodup := (List.nodup_append.1 (List.nodup_cons.1 HN.out).2).1
  have NG : g ∉ (T.node gk a y u (.node gm p z v q)).blocks := fun hm => (List.nodup_cons.1 HN.out).1 (List.mem_append_left _ hm)
  have HGN := Lib.hid NG
  have HKN := Lib.hid NK
  clear NK NG hnab
  go_region_with (go_at_call 149; refine (rotate1_any gk gm u v p q a y z _ _ _ _ _ _ _ (by exact HK.out) (by exact HM.out) (by exact HP.out.drewN _) (by exact HQ.out.drewN _) (by exact HA.out.drewN _) HKN.out (by omega) (by omega)).mono ?_; rintro e w1 ⟨rfl, hA1, hO1⟩; have gG := (hO1.block g (heap_lt (show (w.drewN _).heap[g]? = _ from HG.out)) HGN.out).trans HG.out; have zc := cell_of_heap (i := 0) gG rfl; have zz := frozen_of_heap (i := 0) gG)
  have G2 := set_heap (i := 0) (.pointer (some ⟨gm, 0, none⟩)) gG
  have HNK := Lib.hid (T.At.set hA1 (i := 0) (.pointer (some ⟨gm, 0, none⟩)) (show g ∉ (T.node gm (T.node gk a y u p) z v q).blocks by
    simp only [T.blocks, List.mem_cons, List.mem_append, not_or]; exact ⟨hn2, ⟨hn1, hna, hnp⟩, hnq⟩))
  have HR2 := Lib.hid ((((HR.out.drewN (n1 + n2 + n3 + n4 + 1)).only hO1 (fun k hk hm => (List.nodup_append.1 (List.nodup_cons.1 HN.out).2).2.2 k hm k hk rfl))).set (g := g) (i := 0) (.pointer (some ⟨gm, 0, none⟩)) hnr)
  have HO := Lib.hid hO1
  have HG2 := Lib.hid G2
  have HP2 := Lib.hid (perm_l1 g gk gm a p q r x y z t u v)
  clear zc zz gG G2 hA1 hO1 zg
  go_wp2_with fail
  refine (rotate0_any g gm t v (.node gk a y u p) q r x z s d h _ _ _ _ (by exact HG2.out) (by exact HNK.out.1) (by exact HNK.out.2.1) (by exact HNK.out.2.2) HR2.out (HP2.out.nodup_iff.2 HN.out) (by simp only [T.sz]; omega) (by simp only [T.ds]; omega)).mono ?_
  rintro e w2 ⟨rfl, hA1, hO2⟩
  go_wp2
  go_ret
  exact ⟨rfl, hA1, ((((Only.refl _ w).drewN _).trans (HO.out.mono fun k hk => List.mem_cons_of_mem _ (List.mem_append_left _ hk))).setCell (by exact List.mem_cons_self) _).trans (hO2.mono fun k hk => HP2.out.mem_iff.1 hk)⟩

set_option maxRecDepth 100000 in
set_option maxHeartbeats 2000000 in
theorem bal_r0 (g gk t u : Nat) (a b r : T) (x y s d h : Int) (w : World) (hg : w.heap[g]? = some (.cells (T.cells r x t (.node gk a y u b) s d h) 189 (0, 0))) (hl : (T.node gk a y u b).At w) (hr : r.At w)
    (hnd : (T.node g r x t (.node gk a y u b)).blocks.Nodup) (hs : t + r.sz + (u + a.sz + b.sz) ≤ 2 ^ 60) (hd : 1 + r.ds + (1 + a.ds + b.ds) ≤ 2 ^ 60) (h1 : r.ht + 1 < (T.node gk a y u b).ht) (h2 : a.ht ≤ b.ht) :
    Calls Try.prog 137 #[.pointer (some ⟨g, 0, none⟩)] w fun e w' => e = .returned (.pointer (some ⟨gk, 0, none⟩)) ∧ (T.node gk (.node g r x t a) y u b).At w' ∧ Only (T.node g r x t (.node gk a y u b)).blocks w w' := by
  have l3 := ht_le r
  obtain ⟨c0, c1, c2, c3, c4, c5, c6⟩ := node_cells hg
  obtain ⟨hk, ha, hb⟩ := id hl
  obtain ⟨k0, k1, k2, k3, k4, k5, k6⟩ := node_cells hk
  have HG := Lib.hid hg
  have HL := Lib.hid hl
  have HA := Lib.hid ha
  have HB := Lib.hid hb
  have HK := Lib.hid hk
  have HR := Lib.hid hr
  have HN := Lib.hid hnd
  clear hg hl hr ha hb hk hnd
  have CL := Lib.hid (fun W (h : (T.node gk a y u b).At W) => sizes_any (T.node gk a y u b) W h)
  have CR := Lib.hid (fun W (h : r.At W) => sizes_any r W h)
  have CA := Lib.hid (fun W (h : a.At W) => sizes_any a W h)
  have CB := Lib.hid (fun W (h : b.At W) => sizes_any b W h)
  have w1 : IntKind.i64.wrap ((r.ht : Int) + 1) = (r.ht : Int) + 1 := IntWalk.i64_in _ (by omega)
  have l4 := ht_le (T.node gk a y u b)
  simp only [T.ds] at l4
  have w2 : IntKind.i64.wrap ((((T.node gk a y u b).ht : Nat) : Int) + 1) = (((T.node gk a y u b).ht : Nat) : Int) + 1 := IntWalk.i64_in _ (by omega)
  replace c1 : w.cell? ⟨g, 1, none⟩ = some (.pointer (some ⟨gk, 0, none⟩)) := c1
  go_enter Try.func137, Try.ntmps137
  go_wp2
  refine wp_loop_rounds 2 ?_; rw [rounds_succ]
  go_wp2_with fail
  refine (CR.out _ HR.out).mono ?_
  rintro e wz ⟨rfl, n1, rfl⟩
  go_wp2_with fail
  refine (CL.out _ (HL.out.drewN _)).mono ?_
  rintro e wz ⟨rfl, n2, rfl⟩
  go_wp2_with fail
  rw [rounds_succ]
  go_wp2_with fail
  refine (CL.out _ (HL.out.drewN _)).mono ?_
  rintro e wz ⟨rfl, n3, rfl⟩
  go_wp2_with fail
  refine (CR.out _ (HR.out.drewN _)).mono ?_
  rintro e wz ⟨rfl, n4, rfl⟩
  go_wp2_with fail
  refine (CA.out _ (HA.out.drewN _)).mono ?_
  rintro e wz ⟨rfl, n5, rfl⟩
  go_wp2_with fail
  refine (CB.out _ (HB.out.drewN _)).mono ?_
  rintro e wz ⟨rfl, n6, rfl⟩
  go_wp2_with fail
  refine (rotate1_any g gk t u a b r x y s d h _ _ _ _ (by exact HG.out) (by exact HK.out) (HA.out.drewN _) (HB.out.drewN _) (HR.out.drewN _) HN.out hs hd).mono ?_
  rintro e w1 ⟨rfl, hA1, hO1⟩
  go_wp2
  go_ret
  exact ⟨rfl, hA1, ((Only.refl _ w).drewN _).trans hO1⟩

theorem perm_r1 (g gk gm : Nat) (b p q r : T) (x y z : Int) (t u v : Nat) : (T.node g r x t (T.node gm p z v (T.node gk q y u b))).blocks.Perm (T.node g r x t (T.node gk (T.node gm p z v q) y u b)).blocks := by
  simp only [T.blocks, List.cons_append, List.append_assoc]
  refine .cons g (List.Perm.append_left _ ?_)
  exact ((List.perm_middle (a := gk) (l₁ := p.blocks) (l₂ := q.blocks ++ b.blocks)).cons gm).trans (List.Perm.swap gk gm _)

set_option maxRecDepth 100000 in
set_option maxHeartbeats 2000000 in
theorem bal_r1 (g gk gm t u v : Nat) (b p q r : T) (x y z s d h : Int) (w : World) (hg : w.heap[g]? = some (.cells (T.cells r x t (.node gk (.node gm p z v q) y u b) s d h) 189 (0, 0))) (hl : (T.node gk (.node gm p z v q) y u b).At w) (hr : r.At w)
    (hnd : (T.node g r x t (.node gk (.node gm p z v q) y u b)).blocks.Nodup) (hs : t + r.sz + (u + (v + p.sz + q.sz) + b.sz) ≤ 2 ^ 60) (hd : 1 + r.ds + (1 + (1 + p.ds + q.ds) + b.ds) ≤ 2 ^ 60) (h1 : r.ht + 1 < (T.node gk (.node gm p z v q) y u b).ht) (h2 : b.ht < (T.node gm p z v q).ht) :
    Calls Try.prog 137 #[.pointer (some ⟨g, 0, none⟩)] w fun e w' => e = .returned (.pointer (some ⟨gm, 0, none⟩)) ∧ (T.node gm (.node g r x t p) z v (.node gk q y u b)).At w' ∧ Only (T.node g r x t (.node gk (.node gm p z v q) y u b)).blocks w w' := by
  have l3 := ht_le r
  obtain ⟨c0, c1, c2, c3, c4, c5, c6⟩ := node_cells hg
  obtain ⟨hk, ha, hb⟩ := id hl
  obtain ⟨k0, k1, k2, k3, k4, k5, k6⟩ := node_cells hk
  obtain ⟨hm, hp, hq⟩ := id ha
  have HM := Lib.hid hm
  have HP := Lib.hid hp
  have HQ := Lib.hid hq
  clear hm hp hq
  have HG := Lib.hid hg
  have HL := Lib.hid hl
  have HA := Lib.hid ha
  have HB := Lib.hid hb
  have HK := Lib.hid hk
  have HR := Lib.hid hr
  have HN := Lib.hid hnd
  clear hg hl hr ha hb hk hnd
  have CL := Lib.hid (fun W (h : (T.node gk (.node gm p z v q) y u b).At W) => sizes_any (T.node gk (.node gm p z v q) y u b) W h)
  have CR := Lib.hid (fun W (h : r.At W) => sizes_any r W h)
  have CA := Lib.hid (fun W (h : (T.node gm p z v q).At W) => sizes_any (T.node gm p z v q) W h)
  have CB := Lib.hid (fun W (h : b.At W) => sizes_any b W h)
  have w1 : IntKind.i64.wrap ((r.ht : Int) + 1) = (r.ht : Int) + 1 := IntWalk.i64_in _ (by omega)
  have l4 := ht_le (T.node gk (.node gm p z v q) y u b)
  simp only [T.ds] at l4
  have w2 : IntKind.i64.wrap ((((T.node gk (.node gm p z v q) y u b).ht : Nat) : Int) + 1) = (((T.node gk (.node gm p z v q) y u b).ht : Nat) : Int) + 1 := IntWalk.i64_in _ (by omega)
  replace c1 : w.cell? ⟨g, 1, none⟩ = some (.pointer (some ⟨gk, 0, none⟩)) := c1
  go_enter Try.func137, Try.ntmps137
  go_wp2
  refine wp_loop_rounds 2 ?_; rw [rounds_succ]
  go_wp2_with fail
  refine (CR.out _ HR.out).mono ?_
  rintro e wz ⟨rfl, n1, rfl⟩
  go_wp2_with fail
  refine (CL.out _ (HL.out.drewN _)).mono ?_
  rintro e wz ⟨rfl, n2, rfl⟩
  go_wp2_with fail
  rw [rounds_succ]
  go_wp2_with fail
  refine (CL.out _ (HL.out.drewN _)).mono ?_
  rintro e wz ⟨rfl, n3, rfl⟩
  go_wp2_with fail
  refine (CR.out _ (HR.out.drewN _)).mono ?_
  rintro e wz ⟨rfl, n4, rfl⟩
  go_wp2_with fail
  refine (CA.out _ (HA.out.drewN _)).mono ?_
  rintro e wz ⟨rfl, n5, rfl⟩
  go_wp2_with fail
  refine (CB.out _ (HB.out.drewN _)).mono ?_
  rintro e wz ⟨rfl, n6, rfl⟩
  go_wp2_with fail
  have zg := frozen_of_heap (i := 1) HG.out
  replace k0 : w.cell? ⟨gk, 0, none⟩ = some (.pointer (some ⟨gm, 0, none⟩)) := k0
  have hnc := List.nodup_cons.1 HN.out
  have hn := hnc.1
  simp only [T.blocks, List.mem_cons, List.mem_append, not_or, List.cons_append] at hn
  obtain ⟨hnr, hn1, hn2, ⟨hnp, hnq⟩, hnb⟩ := hn
  have HKN := Lib.hid (List.nodup_append.1 hnc.2).2.1
  have HGN := Lib.hid (show g ∉ (T.node gk (T.node gm p z v q) y u b).blocks from fun hm => hnc.1 (List.mem_append_right _ hm))
  have HDJ := Lib.hid (show ∀ k, k ∈ r.blocks → k ∉ (T.node gk (T.node gm p z v q) y u b).blocks from fun k hk hm => (List.nodup_append.1 hnc.2).2.2 k hk k hm rfl)
  clear hnc
  go_region_with (go_at_call 149; refine (rotate0_any gk gm u v p q b y z _ _ _ _ _ _ _ (by exact HK.out) (by exact HM.out) (by exact HP.out.drewN _) (by exact HQ.out.drewN _) (by exact HB.out.drewN _) HKN.out (by omega) (by omega)).mono ?_; rintro e w1 ⟨rfl, hA1, hO1⟩; have gG := (hO1.block g (heap_lt (show (w.drewN _).heap[g]? = _ from HG.out)) HGN.out).trans HG.out; have zc := cell_of_heap (i := 1) gG rfl; have zz := frozen_of_heap (i := 1) gG)
  have G2 := set_heap (i := 1) (.pointer (some ⟨gm, 0, none⟩)) gG
  have HNK := Lib.hid (T.At.set hA1 (i := 1) (.pointer (some ⟨gm, 0, none⟩)) (show g ∉ (T.node gm p z v (T.node gk q y u b)).blocks by
    simp only [T.blocks, List.mem_cons, List.mem_append, not_or]; exact ⟨hn2, hnp, hn1, hnq, hnb⟩))
  have HR2 := Lib.hid ((((HR.out.drewN (n1 + n2 + n3 + n4 + n5 + n6 + 1)).only hO1 HDJ.out)).set (g := g) (i := 1) (.pointer (some ⟨gm, 0, none⟩)) hnr)
  have HO := Lib.hid hO1
  have HG2 := Lib.hid G2
  have HP2 := Lib.hid (perm_r1 g gk gm b p q r x y z t u v)
  clear zc zz gG G2 hA1 hO1 zg
  go_wp2_with fail
  refine (rotate1_any g gm t v p (.node gk q y u b) r x z s d h _ _ _ _ (by exact HG2.out) (by exact HNK.out.1) (by exact HNK.out.2.1) (by exact HNK.out.2.2) HR2.out (HP2.out.nodup_iff.2 HN.out) (by simp only [T.sz]; omega) (by simp only [T.ds]; omega)).mono ?_
  rintro e w2 ⟨rfl, hA1, hO2⟩
  go_wp2
  go_ret
  exact ⟨rfl, hA1, ((((Only.refl _ w).drewN _).trans (HO.out.mono fun k hk => List.mem_cons_of_mem _ (List.mem_append_right _ hk))).setCell (by exact List.mem_cons_self) _).trans (hO2.mono fun k hk => HP2.out.mem_iff.1 hk)⟩

end Go.Proofs.Ytipgbbhgmoehfaa

/-
  Balance as a whole, and what it keeps.
-/
namespace Go.Proofs.Ytipgbbhgmoehfaa
open Go.RowKit
set_option linter.unusedSimpArgs false

namespace T
/-- The numbers of a tree in order, with their counts. -/
def items : T → List (Int × Nat)
  | leaf => []
  | node _ l x t r => l.items ++ (x, t) :: r.items
def szL : List (Int × Nat) → Nat
  | [] => 0
  | p :: l => p.2 + szL l
theorem szL_append (a b : List (Int × Nat)) : szL (a ++ b) = szL a + szL b := by
  induction a with
  | nil => simp [szL]
  | cons p a ih => simp only [List.cons_append, szL, ih]; omega
theorem sz_items (t : T) : t.sz = szL t.items := by
  induction t with
  | leaf => rfl
  | node g l x t r ihl ihr => simp only [sz, items, szL_append, szL, ihl, ihr]; omega
theorem ds_items (t : T) : t.ds = t.items.length := by
  induction t with
  | leaf => rfl
  | node g l x t r ihl ihr => simp only [ds, items, List.length_append, List.length_cons, ihl, ihr]; omega
theorem sz_of {a b : T} (h : a.items = b.items) : a.sz = b.sz := by rw [sz_items, sz_items, h]
theorem ds_of {a b : T} (h : a.items = b.items) : a.ds = b.ds := by rw [ds_items, ds_items, h]
theorem rot0_items (t : T) : t.rot0.items = t.items := by
  unfold rot0; split <;> simp [items]
theorem rot1_items (t : T) : t.rot1.items = t.items := by
  unfold rot1; split <;> simp [items]
theorem rot0_blocks (t : T) : t.rot0.blocks.Perm t.blocks := by
  unfold rot0
  split
  · rename_i g gk a y u b x t r
    simp only [blocks, List.cons_append, List.append_assoc]
    exact ((List.perm_middle (a := g) (l₁ := a.blocks) (l₂ := b.blocks ++ r.blocks)).cons gk).trans (List.Perm.swap g gk _)
  · exact .refl _
theorem rot1_blocks (t : T) : t.rot1.blocks.Perm t.blocks := by
  unfold rot1
  split
  · rename_i g l x t gk a y u b
    simp only [blocks, List.cons_append, List.append_assoc]
    exact (List.Perm.swap g gk _).trans ((List.perm_middle (a := gk) (l₁ := l.blocks) (l₂ := a.blocks ++ b.blocks)).symm.cons g)
  · exact .refl _
theorem bal_items (t : T) : t.bal.items = t.items := by
  cases t with
  | leaf => rfl
  | node g l x t r =>
    simp only [bal]
    split
    · rw [rot0_items]; split <;> simp [items, rot1_items]
    · split
      · rw [rot1_items]; split <;> simp [items, rot0_items]
      · rfl
theorem bal_blocks (t : T) : t.bal.blocks.Perm t.blocks := by
  cases t with
  | leaf => exact .refl _
  | node g l x t r =>
    simp only [bal]
    split
    · refine (rot0_blocks _).trans ?_
      split
      · exact ((rot1_blocks l).append_right _).cons g
      · exact .refl _
    · split
      · refine (rot1_blocks _).trans ?_
        split
        · exact ((rot0_blocks r).append_left _).cons g
        · exact .refl _
      · exact .refl _
end T

theorem balance_any (g t : Nat) (l r : T) (x s d h : Int) (w : World) (hg : w.heap[g]? = some (.cells (T.cells l x t r s d h) 189 (0, 0))) (hl : l.At w) (hr : r.At w)
    (hnd : (T.node g l x t r).blocks.Nodup) (hs : (T.node g l x t r).sz ≤ 2 ^ 60) (hd : (T.node g l x t r).ds ≤ 2 ^ 60) :
    Calls Try.prog 137 #[.pointer (some ⟨g, 0, none⟩)] w fun e w' => e = .returned (T.bal (.node g l x t r)).ptr ∧ (T.bal (.node g l x t r)).At w' ∧ Only (T.node g l x t r).blocks w w' := by
  have hn := List.nodup_cons.1 hnd
  have hgl : g ∉ l.blocks := fun hm => hn.1 (List.mem_append_left _ hm)
  have hgr : g ∉ r.blocks := fun hm => hn.1 (List.mem_append_right _ hm)
  simp only [T.sz] at hs
  simp only [T.ds] at hd
  simp only [T.bal]
  by_cases h1 : r.ht + 1 < l.ht
  · rw [if_pos h1]
    cases l with
    | leaf => simp [T.ht] at h1
    | node gk a y u b =>
      by_cases h2 : a.ht < b.ht
      · rw [if_pos (show (T.node gk a y u b).kid0.ht < (T.node gk a y u b).kid1.ht from h2)]
        cases b with
        | leaf => simp [T.ht] at h2
        | node gm p z v q => exact bal_l1 g gk gm t u v a p q r x y z s d h w hg hl hr hnd (by simp only [T.sz] at hs; omega) (by simp only [T.ds] at hd; omega) h1 h2
      · rw [if_neg (show ¬ (T.node gk a y u b).kid0.ht < (T.node gk a y u b).kid1.ht from h2)]
        exact bal_l0 g gk t u a b r x y s d h w hg hl hr hnd (by simp only [T.sz] at hs; omega) (by simp only [T.ds] at hd; omega) h1 (by omega)
  · rw [if_neg h1]
    by_cases h2 : l.ht + 1 < r.ht
    · rw [if_pos h2]
      cases r with
      | leaf => simp [T.ht] at h2
      | node gk a y u b =>
        by_cases h3 : b.ht < a.ht
        · rw [if_pos (show (T.node gk a y u b).kid1.ht < (T.node gk a y u b).kid0.ht from h3)]
          cases a with
          | leaf => simp [T.ht] at h3
          | node gm p z v q => exact bal_r1 g gk gm t u v b p q l x y z s d h w hg hr hl hnd (by simp only [T.sz] at hs; omega) (by simp only [T.ds] at hd; omega) h2 h3
        · rw [if_neg (show ¬ (T.node gk a y u b).kid1.ht < (T.node gk a y u b).kid0.ht from h3)]
          exact bal_r0 g gk t u a b l x y s d h w hg hr hl hnd (by simp only [T.sz] at hs; omega) (by simp only [T.ds] at hd; omega) h2 (by omega)
    · rw [if_neg h2]
      exact (bal_no g t l r x s d h w hg hl hr hgl hgr hs hd (by omega) (by omega)).mono fun e w' ⟨h1, h2, h3⟩ => ⟨h1, h2, h3.mono fun k hk => by rw [List.mem_singleton.1 hk]; exact List.mem_cons_self⟩

end Go.Proofs.Ytipgbbhgmoehfaa
