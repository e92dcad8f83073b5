import Derived.Test.YtipgbbhgmoehfaaYM2
import Derived.Test.YtipgbbhgmoehfaaYM
/-
  dsu: Groups.
-/
namespace Go.Proofs.Ytipgbbhgmoehfaa
open Go.RowKit
attribute [local go_sem] Oper.semAt_some
set_option linter.unusedSimpArgs false
set_option linter.unusedSectionVars false

/-! Where the groups lie (plain). -/
def endTo (n : Nat) (lab : Nat → Nat) (i : Nat) : Nat := total i fun a => if lab a = a then sumOf n lab one a else 0
def fnG (n : Nat) (lab : Nat → Nat) (i a : Nat) : Nat := if lab a = a ∧ a < i then endTo n lab a + sumTo i lab one a else 0
def setsTo (n : Nat) (lab : Nat → Nat) (i : Nat) : List Int := ((List.range i).filter fun a => lab a == a).map fun a => (sumOf n lab one a : Int)
theorem endTo_root {n : Nat} {lab : Nat → Nat} {i : Nat} (h : lab i = i) : endTo n lab (i + 1) = endTo n lab i + sumOf n lab one i := by unfold endTo; rw [total, if_pos h]
theorem endTo_non {n : Nat} {lab : Nat → Nat} {i : Nat} (h : lab i ≠ i) : endTo n lab (i + 1) = endTo n lab i := by unfold endTo; rw [total, if_neg h]; rfl
theorem endTo_all {n : Nat} {lab : Nat → Nat} (h : Labs n lab) : endTo n lab n = n := by
  have := setsL_sum (n := n) (lab := lab) (wt := one) fun a ha => ⟨h.lt ha, (h a ha).2⟩
  unfold setsL at this
  rw [sumL_filter] at this
  have e : ∀ a, (if (lab a == a) = true then sumOf n lab one a else 0) = if lab a = a then sumOf n lab one a else 0 := fun a => by simp
  simp only [e] at this
  rw [total_one] at this
  exact Int.ofNat.inj this
theorem endTo_le {n : Nat} {lab : Nat → Nat} (h : Labs n lab) {i : Nat} (hi : i ≤ n) : endTo n lab i ≤ n := by
  have h1 := total_pre hi (fun a => if lab a = a then sumOf n lab one a else 0)
  have h2 := endTo_all h
  unfold endTo at *
  omega
theorem room {n : Nat} {lab : Nat → Nat} {i : Nat} (hi : i < n) : sumTo i lab one (lab i) + 1 ≤ sumOf n lab one (lab i) := by
  have h1 := total_pre (show i + 1 ≤ n by omega) (fun a => if lab a = lab i then one a else 0)
  have h2 := sumTo_succ i lab one (lab i)
  rw [if_pos rfl] at h2
  have h3 : sumTo (i + 1) lab one (lab i) ≤ sumOf n lab one (lab i) := h1
  have : one i = 1 := rfl
  omega
theorem setsTo_root {n : Nat} {lab : Nat → Nat} {i : Nat} (h : lab i = i) : setsTo n lab (i + 1) = setsTo n lab i ++ [(sumOf n lab one i : Int)] := by
  unfold setsTo
  rw [List.range_succ, List.filter_append, List.map_append, List.filter_cons_of_pos (by simpa using h)]
  rfl
theorem setsTo_non {n : Nat} {lab : Nat → Nat} {i : Nat} (h : lab i ≠ i) : setsTo n lab (i + 1) = setsTo n lab i := by
  unfold setsTo
  rw [List.range_succ, List.filter_append, List.map_append, List.filter_cons_of_neg (by simpa using h)]
  simp
/-- The row of next places, before and after its step. -/
theorem fnG_at {n : Nat} {lab : Nat → Nat} (h : Labs n lab) {i : Nat} (hi : i < n) : (if lab i = i then endTo n lab i else fnG n lab i (lab i)) = endTo n lab (lab i) + sumTo i lab one (lab i) := by
  have hl := h i hi
  by_cases e : lab i = i
  · rw [if_pos e, e, sumTo_low h (Nat.le_refl i) (by omega)]; rfl
  · rw [if_neg e]
    unfold fnG
    rw [if_pos ⟨hl.2, by omega⟩]
theorem fnG_next {n : Nat} {lab : Nat → Nat} (h : Labs n lab) {i : Nat} (hi : i < n) {g : Nat → Nat} (h1 : ∀ a, a < n → a ≠ lab i → g a = fnG n lab i a) (h2 : g (lab i) = endTo n lab (lab i) + sumTo i lab one (lab i) + 1) : ∀ a, a < n → g a = fnG n lab (i + 1) a := by
  intro a ha
  have hl := h i hi
  by_cases e : a = lab i
  · rw [e, h2]
    unfold fnG
    rw [if_pos ⟨hl.2, by omega⟩, sumTo_succ, if_pos rfl]
    rfl
  · rw [h1 a ha e]
    unfold fnG
    by_cases hr : lab a = a
    · by_cases hai : a < i
      · rw [if_pos ⟨hr, hai⟩, if_pos ⟨hr, by omega⟩, sumTo_succ, if_neg (fun h => e h.symm)]
        rfl
      · rw [if_neg (fun h => hai h.2), if_neg (fun h => by
          have : a = i := by omega
          subst this
          exact e hr.symm)]
    · rw [if_neg (fun h => hr h.1), if_neg (fun h => hr h.1)]
theorem size_of {W : World} {S U L Z n : Nat} {lab up rt d least size : Nat → Nat} {cu cl cz : Nat} (h : Dsu W S U L Z n lab up rt d least size cu cl cz) {i : Nat} (hi : i < n) : size (rt i) = sumOf n lab one (lab i) := by
  rw [h.sizeE (rt i) (h.forest.rlt i hi) (h.forest.rrt hi)]
  have key : ∀ k, many k (fun a => rt a == rt i) = total k fun a => if (rt a == rt i) = true then 1 else 0 := by
    intro k
    induction k with
    | zero => rfl
    | succ k ih => rw [many_succ, ih, total]
  rw [key]
  refine total_congr fun a ha => ?_
  have e : (rt a == rt i) = true ↔ lab a = lab i := by
    rw [beq_iff_eq]
    constructor
    · intro e; rw [h.labE a ha, h.labE i hi, e]
    · intro e
      have h1 := (h.leastE a ha).2
      have h2 := (h.leastE i hi).2
      rw [← h.labE a ha] at h1
      rw [← h.labE i hi, ← e, h1] at h2
      exact h2
  by_cases h3 : lab a = lab i
  · rw [if_pos (e.2 h3), if_pos h3]; rfl
  · rw [if_neg (fun h => h3 (e.1 h)), if_neg h3]
def lenV : Value → Int
  | .slice _ n _ => n
  | _ => 0
theorem infoSl : (Try.prog.info? 30).map (fun i => (i.zero, i.size, i.bytes)) = some (some (.slice none 0 0), 1, 24) := by kernel_rfl
/-- What Groups keeps. -/
structure Grp (w : World) (S U L Z n : Nat) (lab rt d least size : Nat → Nat) (cu cl cz Lb Nx : Nat) (vg : Value) (fn : Nat → Nat) (i : Nat) (W : World) : Prop where
  dsu : ∃ up, Dsu W S U L Z n lab up rt d least size cu cl cz
  lst : ∃ fl, Row W Lb n fl
  nxt : Row W Nx n fn
  grp : ∃ xs, W.ownsRow w.heap.size 30 1 vg (roots i lab) xs ∧ xs.map lenV = setsTo n lab i
  only : Only [S, U, L, Z] w W
theorem Grp.keep {w : World} {S U L Z n : Nat} {lab rt d least size : Nat → Nat} {cu cl cz Lb Nx : Nat} {vg : Value} {fn : Nat → Nat} {i : Nat} {W W' : World} (h : Grp w S U L Z n lab rt d least size cu cl cz Lb Nx vg fn i W) (hO : Only [] W W') : Grp w S U L Z n lab rt d least size cu cl cz Lb Nx vg fn i W' := by
  obtain ⟨up, hd⟩ := h.dsu
  obtain ⟨fl, hl⟩ := h.lst
  obtain ⟨xs, hg, hx⟩ := h.grp
  exact ⟨⟨up, hd.same fun k hk => hO.block k (hd.flt k hk) (by simp)⟩, ⟨fl, hl.only hO (by simp)⟩, h.nxt.only hO (by simp), ⟨xs, owns_only hg hO, hx⟩, h.only.trans (hO.mono (by simp))⟩
theorem Dsu.typed {W : World} {S U L Z n : Nat} {lab up rt d least size : Nat → Nat} {cu cl cz : Nat} (h : Dsu W S U L Z n lab up rt d least size cu cl cz) : ∀ k, k ∈ [S, U, L, Z] → ∃ cs t, W.heap[k]? = some (.cells cs t (0, 0)) ∧ t ≠ 30 := by
  intro k hk
  simp only [List.mem_cons, List.not_mem_nil, or_false] at hk
  rcases hk with rfl | rfl | rfl | rfl
  · exact ⟨_, _, h.head, by decide⟩
  · obtain ⟨cs, hc⟩ := h.rowU.heap; exact ⟨_, _, hc, by decide⟩
  · obtain ⟨cs, hc⟩ := h.rowL.heap; exact ⟨_, _, hc, by decide⟩
  · obtain ⟨cs, hc⟩ := h.rowZ.heap; exact ⟨_, _, hc, by decide⟩
/-- The root of an element is asked for. -/
theorem Grp.root {w : World} {S U L Z n : Nat} {lab rt d least size : Nat → Nat} {cu cl cz Lb Nx : Nat} {vg : Value} {fn : Nat → Nat} {i : Nat} {W : World} (h : Grp w S U L Z n lab rt d least size cu cl cz Lb Nx vg fn i W) (hLb : w.heap.size ≤ Lb) (hNx : w.heap.size ≤ Nx) (hU : U < w.heap.size) {a : Nat} (ha : a < n) :
    Calls Try.prog 99 #[.pointer (some ⟨S, 0, none⟩), .int .i64 a] W fun e w' => e = .returned (.int .i64 (rt a)) ∧ Grp w S U L Z n lab rt d least size cu cl cz Lb Nx vg fn i w' := by
  obtain ⟨up, hd⟩ := h.dsu
  refine (root_dsu hd a ha).mono ?_
  rintro e w' ⟨rfl, up', hd', hO⟩
  obtain ⟨fl, hl⟩ := h.lst
  obtain ⟨xs, hg, hx⟩ := h.grp
  refine ⟨rfl, ⟨up', hd'⟩, ⟨fl, hl.only hO (by simp; omega)⟩, h.nxt.only hO (by simp; omega), ⟨xs, ?_, hx⟩, h.only.trans (hO.mono fun k hk => by simp at hk; simp [hk])⟩
  obtain ⟨hl', h0 | ⟨g, cap, cur, hv, hb, hh, rest⟩⟩ := hg
  · exact ⟨hl', .inl h0⟩
  · exact ⟨hl', .inr ⟨g, cap, cur, hv, hb, (hO.block g (heap_lt hh) (by simp; omega)).trans hh, rest⟩⟩
/-- One group more. -/
theorem Grp.put {w : World} {S U L Z n : Nat} {lab rt d least size : Nat → Nat} {cu cl cz Lb Nx : Nat} {vg v' : Value} {fn : Nat → Nat} {i : Nat} {W w5 : World} {tmp : Obj} {A : Option Addr} {c : Nat} (h : Grp w S U L Z n lab rt d least size cu cl cz Lb Nx vg fn i W) (hr : lab i = i) {xs : List Value} (hx : xs.map lenV = setsTo n lab i) (hown0 : W.ownsRow w.heap.size 30 1 vg (roots i lab) xs)
    (hown : w5.ownsRow w.heap.size 30 1 v' (roots i lab + 1) (xs ++ [.slice A (sumOf n lab one i) c])) (hg : (W.alloc tmp).grownBy w5 vg.ownBlock) :
    Grp w S U L Z n lab rt d least size cu cl cz Lb Nx v' fn (i + 1) w5 := by
  obtain ⟨up, hd⟩ := h.dsu
  obtain ⟨fl, hl⟩ := h.lst
  have rowk : ∀ {g : Nat} {f : Nat → Nat}, Row W g n f → Row w5 g n f := fun hrow => by
    obtain ⟨cs, hc⟩ := hrow.heap
    exact hrow.same ((kept_grown hown0 hg hc (by decide)).trans hc.symm)
  refine ⟨⟨up, hd.same fun k hk => ?_⟩, ⟨fl, rowk hl⟩, rowk h.nxt, ⟨xs ++ [.slice A (sumOf n lab one i) c], ?_, ?_⟩, ?_⟩
  · obtain ⟨cs, t, hc, ht⟩ := hd.typed k hk
    exact (kept_grown hown0 hg hc ht).trans hc.symm
  · rw [rootsTo_succ, if_pos hr]; exact hown
  · rw [List.map_append, hx, setsTo_root hr]; rfl
  · refine ⟨?_, ?_, ?_, ?_, fun k hk hn => ?_⟩
    · exact hg.os.trans h.only.os
    · exact hg.tape.trans h.only.tape
    · exact hg.output.trans h.only.output
    · have := hg.size; rw [World.size_alloc] at this; have := h.only.size; omega
    · have h1 : k < W.heap.size := Nat.lt_of_lt_of_le hk h.only.size
      rw [hg.block k (by rw [World.size_alloc]; omega) (fun e => by have := (hown0.lt k e.symm).1; omega), heap_alloc_old _ _ h1]
      exact h.only.block k hk hn
theorem owns_set {W : World} {base e size n : Nat} {v : Value} {xs : List Value} (h : W.ownsRow base e size v n xs) {g i : Nat} {f : Nat → Nat} {m : Nat} (hr : Row W g m f) (he : e ≠ 3) (x : Value) : (W.setCell ⟨g, i, none⟩ x).ownsRow base e size v n xs := by
  obtain ⟨hl, h0 | ⟨g', cap, cur, hv, hb, hh, rest⟩⟩ := h
  · exact ⟨hl, .inl h0⟩
  · refine ⟨hl, .inr ⟨g', cap, cur, hv, hb, head_other hh (fun e' => ?_) x, rest⟩⟩
    obtain ⟨cs, hc⟩ := hr.heap
    rw [← e', hh] at hc
    cases hc
    exact he rfl
theorem Grp.setN {w : World} {S U L Z n : Nat} {lab rt d least size : Nat → Nat} {cu cl cz Lb Nx : Nat} {vg : Value} {fn : Nat → Nat} {i : Nat} {W : World} (h : Grp w S U L Z n lab rt d least size cu cl cz Lb Nx vg fn i W) (h1 : S < w.heap.size) (h2 : U < w.heap.size) (h3 : L < w.heap.size) (h4 : Z < w.heap.size) (hN : w.heap.size ≤ Nx) (hne : Lb ≠ Nx) (a y : Nat) :
    Grp w S U L Z n lab rt d least size cu cl cz Lb Nx vg (Go.Proofs.Ytipgbbhgmoehfaa.put fn a y) i (W.setCell ⟨Nx, a, none⟩ (.int .i64 y)) := by
  obtain ⟨up, hd⟩ := h.dsu
  obtain ⟨fl, hl⟩ := h.lst
  obtain ⟨xs, hg, hx⟩ := h.grp
  refine ⟨⟨up, hd.same fun k hk => ?_⟩, ⟨fl, hl.set_other hne _⟩, h.nxt.put a y, ⟨xs, owns_set hg h.nxt (by decide) _, hx⟩, ?_⟩
  · simp only [List.mem_cons, List.not_mem_nil, or_false] at hk
    exact heap_setCell_other W ⟨Nx, a, none⟩ k _ (by show k ≠ Nx; omega)
  · exact h.only.to ((Only.refl [Nx] W).setCell (by simp) _) fun j hj hlt => by simp at hj; omega
theorem Grp.setL {w : World} {S U L Z n : Nat} {lab rt d least size : Nat → Nat} {cu cl cz Lb Nx : Nat} {vg : Value} {fn : Nat → Nat} {i : Nat} {W : World} (h : Grp w S U L Z n lab rt d least size cu cl cz Lb Nx vg fn i W) (h1 : S < w.heap.size) (h2 : U < w.heap.size) (h3 : L < w.heap.size) (h4 : Z < w.heap.size) (hN : w.heap.size ≤ Lb) (hne : Nx ≠ Lb) (a y : Nat) :
    Grp w S U L Z n lab rt d least size cu cl cz Lb Nx vg fn i (W.setCell ⟨Lb, a, none⟩ (.int .i64 y)) := by
  obtain ⟨up, hd⟩ := h.dsu
  obtain ⟨fl, hl⟩ := h.lst
  obtain ⟨xs, hg, hx⟩ := h.grp
  refine ⟨⟨up, hd.same fun k hk => ?_⟩, ⟨_, hl.put a y⟩, h.nxt.set_other hne _, ⟨xs, owns_set hg hl (by decide) _, hx⟩, ?_⟩
  · simp only [List.mem_cons, List.not_mem_nil, or_false] at hk
    exact heap_setCell_other W ⟨Lb, a, none⟩ k _ (by show k ≠ Lb; omega)
  · exact h.only.to ((Only.refl [Lb] W).setCell (by simp) _) fun j hj hlt => by simp at hj; omega
theorem Grp.same {w : World} {S U L Z n : Nat} {lab rt d least size : Nat → Nat} {cu cl cz Lb Nx : Nat} {vg : Value} {fn : Nat → Nat} {i : Nat} {W : World} (h : Grp w S U L Z n lab rt d least size cu cl cz Lb Nx vg fn i W) (hr : lab i ≠ i) : Grp w S U L Z n lab rt d least size cu cl cz Lb Nx vg fn (i + 1) W := by
  obtain ⟨xs, hg, hx⟩ := h.grp
  exact ⟨h.dsu, h.lst, h.nxt, ⟨xs, by rw [rootsTo_succ, if_neg hr]; exact hg, by rw [setsTo_non hr]; exact hx⟩, h.only⟩
theorem Grp.congr {w : World} {S U L Z n : Nat} {lab rt d least size : Nat → Nat} {cu cl cz Lb Nx : Nat} {vg : Value} {fn fn' : Nat → Nat} {i : Nat} {W : World} (h : Grp w S U L Z n lab rt d least size cu cl cz Lb Nx vg fn i W) (e : ∀ a, a < n → fn a = fn' a) : Grp w S U L Z n lab rt d least size cu cl cz Lb Nx vg fn' i W :=
  ⟨h.dsu, h.lst, h.nxt.congr e, h.grp, h.only⟩
theorem cell_keepN {W W3 : World} {b i g j : Nat} {v y : Value} (h : W.cell? ⟨b, i, none⟩ = some v) (hne : b ≠ g) (e : W.setCell ⟨g, j, none⟩ y = W3) : W3.cell? ⟨b, i, none⟩ = some v := by
  rw [← e]
  exact (World.cell?_of_block (w := W) (a := ⟨b, i, none⟩) (heap_setCell_other W ⟨g, j, none⟩ b y hne)).trans h
/-- What Groups returns: rows whose lengths are the sizes of the sets. -/
def GroupsPost (w : World) (F : List Nat) (n : Nat) (lab : Nat → Nat) (e : Ending) (w' : World) : Prop := ∃ v xs, e = .returned v ∧ w'.ownsRow w.heap.size 30 1 v (roots n lab) xs ∧ xs.map lenV = setsTo n lab n ∧ Only F w w'
set_option maxRecDepth 100000 in
set_option maxHeartbeats 4000000 in
theorem Groups_any {w : World} {F : List Nat} {S n : Nat} {lab : Nat → Nat} (h : DsuAt w F S n lab) (hL : Labs n lab) (hn : n ≤ 4096) : Calls Try.prog 68 #[.pointer (some ⟨S, 0, none⟩)] w (GroupsPost w F n lab) := by
  obtain ⟨U, L, Z, up, rt, d, least, size, cu, cl, cz, rfl, hd⟩ := h
  obtain ⟨i0, hi, hz0, hz1, hz2⟩ := info_parts infoSl
  have CV := Lib.hid (svalid_any hd)
  have HL := Lib.hid hL
  obtain ⟨k1, k2, k3, k4⟩ := hd.c
  have hU := hd.rowU.lt
  have hS := hd.flt S (by simp)
  have hLt := hd.flt L (by simp)
  have hZt := hd.flt Z (by simp)
  have hcnt := many_le n fun a => lab a == a
  have hmk := mk_ints n (by omega)
  obtain ⟨cnt, hc⟩ : ∃ cnt, (many n fun a => lab a == a) = cnt := ⟨_, rfl⟩
  rw [hc] at k4 hcnt
  have hmg : ∀ w : World, (Instr.makeSlice 91 (.int .i64 0) (.int .i64 (cnt : Int))).run Try.prog w = .ok (.slice (some ⟨w.heap.size, 0, none⟩) 0 cnt) (w.alloc (.cells (madeCells #[.slice none 0 0] cnt) 30)) := fun w => by
    have h := run_makeSlice (P := Try.prog) (w := w) 91 30 i0 (.slice none 0 0) Try.underlying91 hi hz0 .i64 .i64 0 (cnt : Int) (Int.le_refl _) (by omega) (by rw [hz1]; omega) (by rw [hz2]; omega) (by omega)
    rw [hz1] at h
    simp at h
    exact h
  have H0 := Lib.hid (show Grp w S U L Z n lab rt d least size cu cl cz w.heap.size (w.heap.size + 1) (.slice (some ⟨w.heap.size + 1 + 1, 0, none⟩) 0 cnt) (fnG n lab 0) 0 (((w.alloc (.cells (madeCells #[.int .i64 0] n) 3)).alloc (.cells (madeCells #[.int .i64 0] n) 3)).alloc (.cells (madeCells #[.slice none 0 0] cnt) 30)) from by
    have hO : Only [] w (((w.alloc (.cells (madeCells #[.int .i64 0] n) 3)).alloc (.cells (madeCells #[.int .i64 0] n) 3)).alloc (.cells (madeCells #[.slice none 0 0] cnt) 30)) := (((Only.refl [] w).alloc _).alloc _).alloc _
    have s1 : ((w.alloc (.cells (madeCells #[.int .i64 0] n) 3)).alloc (.cells (madeCells #[.int .i64 0] n) 3)).heap.size = w.heap.size + 1 + 1 := by rw [World.size_alloc, World.size_alloc]
    refine ⟨⟨up, hd.same fun k hk => hO.block k (hd.flt k hk) (by simp)⟩, ⟨fun _ => 0, made_row ?_⟩, ?_, ⟨[], ?_, rfl⟩, hO.mono (by simp)⟩
    · rw [heap_alloc_old _ _ (by rw [s1]; omega)]
      exact (two_rows w _ _ _).1
    · refine (made_row ?_).congr (f' := fnG n lab 0) fun a _ => by unfold fnG; rw [if_neg (by omega)]
      rw [heap_alloc_old _ _ (by rw [s1]; omega)]
      exact (two_rows w _ _ _).2
    · have hh := heap_alloc_new ((w.alloc (.cells (madeCells #[.int .i64 0] n) 3)).alloc (.cells (madeCells #[.int .i64 0] n) 3)) (.cells (madeCells #[.slice none 0 0] cnt) 30)
      rw [s1] at hh
      exact ⟨rfl, .inr ⟨w.heap.size + 1 + 1, cnt, _, rfl, by omega, hh, Nat.zero_le _, by unfold maxLen; omega, by simp [madeCells], by simp; exact .inl rfl⟩⟩)
  clear hd hc hL
  go_enter Try.func68, Try.ntmps68
  go_wp2_with fail
  refine CV.out.mono ?_
  rintro e w' ⟨rfl, rfl⟩
  go_wp2_with fail
  clear k1 k2 k3 k4 hmk hmg
  obtain ⟨W0, hW0⟩ : ∃ W0, ((w.alloc (.cells (madeCells #[.int .i64 0] n) 3)).alloc (.cells (madeCells #[.int .i64 0] n) 3)).alloc (.cells (madeCells #[.slice none 0 0] cnt) 30) = W0 := ⟨_, rfl⟩
  rw [hW0] at H0 ⊢
  obtain ⟨B, hB⟩ : ∃ B, w.heap.size = B := ⟨_, rfl⟩
  have HB := Lib.hid hB
  rw [hB] at H0 hU hS hLt hZt ⊢
  clear hW0 hB
  go_loopw [5, 6, 32] (fun vg en i wr => ∃ k : Nat, k ≤ n ∧ i = .int .i64 k ∧ (∃ ed : Nat, en = .int .i64 ed ∧ ed ≤ n ∧ Hid (ed = endTo n lab k)) ∧ Hid (Grp w S U L Z n lab rt d least size cu cl cz B (B + 1) vg (fnG n lab k) k wr)) (fun _ _ i _ => n - (intOf i).toNat)
  case atStart => exact ⟨0, Nat.zero_le _, rfl, ⟨0, rfl, Nat.zero_le _, Lib.hid rfl⟩, H0⟩
  case round =>
    clear H0
    obtain ⟨k, hk, rfl, ⟨ed, rfl, hed, HE⟩, H1⟩ := hrel
    by_cases hlt : k < n
    · have CR := Lib.hid (H1.out.root (by have := HB.out; omega) (by have := HB.out; omega) (by have := HB.out; omega) hlt)
      go_wp2_with fail
      refine CR.out.mono ?_
      rintro e w2 ⟨rfl, hg⟩
      have H2 := Lib.hid hg
      obtain ⟨up2, hd2⟩ := hg.dsu
      obtain ⟨k1, k2, k3, k4⟩ := hd2.c
      have hrl := hd2.forest.rlt k hlt
      have cl1 := hd2.rowL.cell hrl
      have cz1 := hd2.rowZ.cell hrl
      rw [← hd2.labE k hlt] at cl1
      rw [size_of hd2 hlt] at cz1
      have cn := fun a (ha : a < n) => hg.nxt.cell ha
      have zn := fun a => hg.nxt.frozen a
      obtain ⟨fl, hl⟩ := hg.lst
      have hll := HL.out k hlt
      obtain ⟨lk, hlk⟩ : ∃ lk, lab k = lk := ⟨_, rfl⟩
      rw [hlk] at cl1 cz1 hll
      have hlkn : lk < n := by omega
      have HLK := Lib.hid hlk
      have hroom := room (lab := lab) hlt
      have hat := fnG_at HL.out hlt
      rw [hlk] at hroom hat
      obtain ⟨rk, hrk⟩ : ∃ rk, rt k = rk := ⟨_, rfl⟩
      rw [hrk] at hrl cl1 cz1 ⊢
      have hsz := hg.only.size
      clear CR H1 hlk hrk
      by_cases he : lk = k
      · subst he
        have hE1 := endTo_root (n := n) HLK.out
        have hE2 := endTo_le HL.out (show lk + 1 ≤ n by omega)
        obtain ⟨sz, hsz'⟩ : ∃ sz, sumOf n lab one lk = sz := ⟨_, rfl⟩
        rw [hsz'] at cz1 hE1 hroom
        have HSz := Lib.hid hsz'
        have hsp : 0 < sz := by omega
        have hed2 : ed + sz ≤ n := by rw [HE.out]; omega
        have HE2 := Lib.hid (show ed + sz = endTo n lab (lk + 1) by rw [hE1, HE.out])
        have cn1 := cn lk hlkn
        have zn1 := zn lk
        have HB2 := HB.out
        have H3 := Lib.hid (hg.setN (by omega) (by omega) (by omega) (by omega) (by omega) (by omega) lk ed)
        obtain ⟨xs, hx1, hx2⟩ := H3.out.grp
        obtain ⟨f0, hf0⟩ : ∃ f0, fnG n lab lk lk = f0 := ⟨_, rfl⟩
        rw [hf0] at cn1
        have g1 : S ≠ B + 1 := by omega
        have g2 : Z ≠ B + 1 := by omega
        have g3 : L ≠ B + 1 := by omega
        have g4 : B ≠ B + 1 := by omega
        have g5 : B + 1 ≠ B := by omega
        have hedn : ed < n := by omega
        have hrt := roots_le n lab
        have hrl2 : roots lk lab ≤ lk := roots_le lk lab
        have hws : w.heap.size ≤ (w2.setCell ⟨B + 1, lk, none⟩ (.int .i64 ed)).heap.size := H3.out.only.size
        obtain ⟨W3, hW3⟩ : ∃ W3, w2.setCell ⟨B + 1, lk, none⟩ (.int .i64 ed) = W3 := ⟨_, rfl⟩
        rw [hW3] at H3 hx1 hws
        have m1 := cell_keepN hd2.c.1 g1 hW3
        have m3 := cell_keepN hd2.c.2.2.1 g1 hW3
        have m4 := cell_keepN cz1 g2 hW3
        have m5 : W3.cell? ⟨B + 1, lk, none⟩ = some (.int .i64 ed) := by
          have := H3.out.nxt.cell hlkn
          rwa [put_same] at this
        clear hsz' hE1 hE2 hf0 cn zn hl hll hg H2 hd2
        go_wp2_with (at_builtin; refine wpList_append_own _ rfl _ _ 91 rfl w.heap.size 30 i0 (.slice none 0 0) 1 24 Try.underlying91 hi hz0 hz1 hz2 rfl (by decide) _ _ _ rfl (hx1.alloc _) ⟨W3.heap.size, 0, none⟩ 1 1 [_] rfl rfl (cell_one_new _ _ _) (by simp [Value.oneCell']) (by unfold maxLen; omega) (by omega) (by simp; omega) ?_; intro v5 w5 hown5 hgrow5 _; have H5 := Lib.hid (H3.out.put HLK.out hx2 hx1 (by rw [HSz.out]; exact hown5) hgrow5); clear hown5 hgrow5; have c5 : w5.cell? ⟨B + 1, lk, none⟩ = some (.int .i64 ed) := by {have := H5.out.nxt.cell hlkn; rwa [put_same] at this}; have z5 := H5.out.nxt.frozen lk; obtain ⟨fl5, hl5⟩ := H5.out.lst; have b5 := hl5.cell hedn; have zb5 := hl5.frozen ed; clear hl5)
        have H7 := (H5.out.setL (by omega) (by omega) (by omega) (by omega) (by omega) (by omega) ed lk).setN (by omega) (by omega) (by omega) (by omega) (by omega) (by omega) lk (ed + 1)
        have H8 := Lib.hid (H7.congr (fn' := fnG n lab (lk + 1)) (fnG_next HL.out hlt (by rw [HLK.out]; intro a _ hne; rw [put_other _ _ hne, put_other _ _ hne]) (by rw [HLK.out, put_same]; simp only [if_true] at hat; have := HE.out; omega)))
        exact ⟨⟨lk + 1, by omega, by go_num, ⟨ed + sz, by go_num, hed2, HE2⟩, H8⟩, by simp [intOf]; omega⟩
      · have hE1 := endTo_non (n := n) (lab := lab) (i := k) (by rw [HLK.out]; exact he)
        have HE2 := Lib.hid (show ed = endTo n lab (k + 1) by rw [hE1, HE.out])
        rw [if_neg he] at hat
        obtain ⟨st, hst⟩ : ∃ st, endTo n lab lk + sumTo k lab one lk = st := ⟨_, rfl⟩
        rw [hst] at hat
        have hstn : st < n := by
          have h1 := endTo_root (n := n) hll.2
          have h2 := endTo_le HL.out (show lk + 1 ≤ n by omega)
          omega
        have cn1 := cn lk hlkn
        rw [hat] at cn1
        have zn1 := zn lk
        have bl := hl.cell hstn
        have bz := hl.frozen st
        have HB2 := HB.out
        have g4 : B ≠ B + 1 := by omega
        have g5 : B + 1 ≠ B := by omega
        have qe : ((lk : Int) == (k : Int)) = false := by simp; omega
        have H7 := ((hg.same (by rw [HLK.out]; exact he)).setL (by omega) (by omega) (by omega) (by omega) (by omega) (by omega) st k).setN (by omega) (by omega) (by omega) (by omega) (by omega) (by omega) lk (st + 1)
        have H8 := Lib.hid (H7.congr (fn' := fnG n lab (k + 1)) (fnG_next HL.out hlt (by rw [HLK.out]; intro a _ hne; rw [put_other _ _ hne]) (by rw [HLK.out, put_same, hst])))
        clear H7 hE1 hat hst cn zn hl hg H2 hd2 hroom hll
        go_wp2_with fail
        exact ⟨⟨k + 1, by omega, by go_num, ⟨ed, rfl, hed, HE2⟩, H8⟩, by simp [intOf]; omega⟩
    · obtain rfl : k = n := by omega
      obtain ⟨xs, hx1, hx2⟩ := H1.out.grp
      have HP := Lib.hid (show GroupsPost w [S, U, L, Z] k lab (.returned u5) wr from ⟨u5, xs, rfl, hx1, hx2, H1.out.only⟩)
      clear hx1 hx2 H1
      go_wp2_with fail
      go_ret
      exact HP.out

end Go.Proofs.Ytipgbbhgmoehfaa
