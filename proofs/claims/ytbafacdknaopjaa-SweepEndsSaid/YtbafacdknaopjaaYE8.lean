import Derived.Test.YtbafacdknaopjaaYE3
import Derived.Test.YtbafacdknaopjaaYE2
import Derived.Test.YtbafacdknaopjaaYE7
import Derived.Test.YtbafacdknaopjaaYK4
import Derived.Test.YtbafacdknaopjaaYU2
/-
  For SweepEnds: a row of marks; the indices behind an order (plain); Rows with the room of what it returns.
-/
namespace Go.Proofs.Ytbafacdknaopjaa
open Go.RowKit
attribute [local go_sem] Oper.semAt_some
set_option linter.unusedSimpArgs false
set_option linter.unusedSectionVars false

/-- A row of truth values. -/
def RowB (w : World) (g n : Nat) (f : Nat → Bool) : Prop := RowGe w g 4 n (fun i => .bool (f i))
theorem RowB.cell {w : World} {g n : Nat} {f : Nat → Bool} (h : RowB w g n f) {i : Nat} (hi : i < n) : w.cell? ⟨g, i, none⟩ = some (.bool (f i)) := by
  obtain ⟨c, hc, r⟩ := h
  exact cell_of_heap hc (r i hi)
theorem RowB.frozen {w : World} {g n : Nat} {f : Nat → Bool} (h : RowB w g n f) (i : Nat) : w.frozen? ⟨g, i, none⟩ = false := by
  obtain ⟨c, hc, r⟩ := h
  exact frozen_of_heap hc
theorem RowB.lt {w : World} {g n : Nat} {f : Nat → Bool} (h : RowB w g n f) : g < w.heap.size := let ⟨_, hc, _⟩ := h; heap_lt hc
theorem RowB.mark {w : World} {g n : Nat} {f : Nat → Bool} (h : RowB w g n f) (i : Nat) : RowB (w.setCell ⟨g, i, none⟩ (.bool true)) g n (fun j => if j = i then true else f j) := by
  refine (RowGe.set h i (.bool true)).congr fun j hj => ?_
  show _ = Value.bool (if j = i then true else f j)
  split <;> rfl
theorem RowB.only {w w' : World} {g n : Nat} {f : Nat → Bool} {gs : List Nat} (h : RowB w g n f) (ho : Only gs w w') (hg : g ∉ gs) : RowB w' g n f := by
  have hk := ho.block g h.lt hg
  obtain ⟨c, hc, r⟩ := h
  exact ⟨c, hk.trans hc, r⟩
theorem RowB.congr {w : World} {g n : Nat} {f f' : Nat → Bool} (h : RowB w g n f) (e : ∀ i, i < n → f i = f' i) : RowB w g n f' := RowGe.congr h fun i hi => by rw [e i hi]
theorem infoBool : (Try.prog.info? 4).map (fun i => (i.zero, i.size, i.bytes)) = some (some (.bool false), 1, 1) := by kernel_rfl
theorem mk_bools (n : Nat) (hn : n ≤ 2147483647) (w : World) : (Instr.makeSlice 121 (.int .i64 (n : Int)) (.int .i64 (n : Int))).run Try.prog w = .ok (.slice (some ⟨w.heap.size, 0, none⟩) n n) (w.alloc (.cells (madeCells #[.bool false] n) 4)) :=
  run_make_row' 121 4 (.bool false) 1 Try.underlying121 infoBool rfl .i64 .i64 n (by omega) (by omega) w
theorem made_rowB {w : World} {g n : Nat} (h : w.heap[g]? = some (.cells (madeCells #[.bool false] n) 4 (0, 0))) : RowB w g n (fun _ => false) := by
  obtain ⟨c, hc, r⟩ := World.rowIs_made w (.bool false) n 4
  rw [heap_alloc_new] at hc
  cases hc
  exact ⟨_, h, r.2⟩

/-- i is one of the first r of an order. -/
def inF (fo : Nat → Int) (r i : Nat) : Bool := decide (∃ j, j < r ∧ fo j = (i : Int))
theorem inF_zero (fo : Nat → Int) (i : Nat) : inF fo 0 i = false := decide_eq_false fun ⟨_, h, _⟩ => by omega
theorem inF_succ (fo : Nat → Int) (r i : Nat) : inF fo (r + 1) i = if (i : Int) = fo r then true else inF fo r i := by
  by_cases e : (i : Int) = fo r
  · rw [if_pos e]
    exact decide_eq_true ⟨r, by omega, e.symm⟩
  · rw [if_neg e]
    unfold inF
    refine decide_eq_decide.2 ⟨fun ⟨j, h1, h2⟩ => ⟨j, ?_, h2⟩, fun ⟨j, h1, h2⟩ => ⟨j, by omega, h2⟩⟩
    rcases Nat.lt_or_eq_of_le (Nat.le_of_lt_succ h1) with h | rfl
    · exact h
    · exact absurd h2.symm e

/-- The order and the other indices from i on, behind it. -/
structure AllI (k r : Nat) (fo : Nat → Int) (i t : Nat) (g : Nat → Int) : Prop where
  low : r ≤ t ∧ ∀ j, j < r → g j = fo j
  rng : Ordered k t g
  new : ∀ j, r ≤ j → j < t → (i : Int) ≤ g j
  cov : ∀ a, i ≤ a → a < k → ∃ j, j < t ∧ g j = (a : Int)
theorem AllI.start {k r : Nat} {fo : Nat → Int} (h : Ordered k r fo) : AllI k r fo k r fo :=
  ⟨⟨Nat.le_refl _, fun _ _ => rfl⟩, h, fun j h1 h2 => by omega, fun a h1 h2 => by omega⟩
theorem AllI.skip {k r i t : Nat} {fo g : Nat → Int} (h : AllI k r fo (i + 1) t g) (hi : inF fo r i = true) : AllI k r fo i t g := by
  refine ⟨h.low, h.rng, fun j h1 h2 => by have := h.new j h1 h2; omega, fun a h1 h2 => ?_⟩
  rcases Nat.lt_or_eq_of_le h1 with hl | rfl
  · exact h.cov a hl h2
  · obtain ⟨j, hj, e⟩ := of_decide_eq_true hi
    exact ⟨j, by have := h.low.1; omega, (h.low.2 j hj).trans e⟩
theorem AllI.more {k r i t : Nat} {fo g : Nat → Int} (h : AllI k r fo (i + 1) t g) (hik : i < k) (hi : inF fo r i = false) : AllI k r fo i (t + 1) (upd g t i) := by
  have hn : ∀ j, j < t → g j ≠ (i : Int) := fun j hj e => by
    by_cases hjr : j < r
    · exact of_decide_eq_false hi ⟨j, hjr, (h.low.2 j hjr).symm.trans e⟩
    · have := h.new j (by omega) hj
      omega
  refine ⟨⟨by have := h.low.1; omega, fun j hj => ?_⟩, ⟨fun j hj => ?_, fun j hj c hc => ?_⟩, fun j h1 h2 => ?_, fun a h1 h2 => ?_⟩
  · rw [upd_lt (by have := h.low.1; omega)]
    exact h.low.2 j hj
  · rcases Nat.lt_or_eq_of_le (Nat.le_of_lt_succ hj) with hl | rfl
    · rw [upd_lt hl]
      exact h.rng.1 j hl
    · rw [upd_at]
      omega
  · rw [upd_lt (show c < t by omega)]
    rcases Nat.lt_or_eq_of_le (Nat.le_of_lt_succ hj) with hl | rfl
    · rw [upd_lt hl]
      exact h.rng.2 j hl c hc
    · rw [upd_at]
      exact hn c hc
  · rcases Nat.lt_or_eq_of_le (Nat.le_of_lt_succ h2) with hl | rfl
    · rw [upd_lt hl]
      have := h.new j h1 hl
      omega
    · rw [upd_at]
      omega
  · rcases Nat.lt_or_eq_of_le h1 with hl | rfl
    · obtain ⟨j, hj, e⟩ := h.cov a hl h2
      exact ⟨j, by omega, by rw [upd_lt hj]; exact e⟩
    · exact ⟨t, by omega, upd_at _ _ _⟩
theorem AllI.done {k r t : Nat} {fo g : Nat → Int} (h : AllI k r fo 0 t g) : t = k ∧ ((List.range k).map (nat g)).Perm ((List.range k).map id) := by
  have hp : ((List.range t).map (nat g)).Perm (List.range k) := by
    refine (List.perm_ext_iff_of_nodup ?_ List.nodup_range).2 fun a => ?_
    · refine List.pairwise_map.2 ((List.pairwise_lt_range (n := t)).imp_of_mem fun {x y} hx hy hlt e => ?_)
      have h1 := h.rng.1 x (List.mem_range.1 hx)
      have h2 := h.rng.1 y (List.mem_range.1 hy)
      unfold nat at e
      exact h.rng.2 y (List.mem_range.1 hy) x hlt (by omega)
    · rw [List.mem_map, List.mem_range]
      constructor
      · rintro ⟨j, hj, rfl⟩
        have := h.rng.1 j (List.mem_range.1 hj)
        unfold nat
        omega
      · intro ha
        obtain ⟨j, hj, e⟩ := h.cov a (Nat.zero_le _) ha
        exact ⟨j, List.mem_range.2 hj, by unfold nat; omega⟩
  have hl := hp.length_eq
  rw [List.length_map, List.length_range, List.length_range] at hl
  subst hl
  exact ⟨rfl, by rw [List.map_id]; exact hp⟩

/-- Triples that lie in cells of one's own: with their room. -/
theorem trips_own2 {w : World} {base n : Nat} {T : TypeId} {val : Value} {u v x : Nat → Int} (h : w.ownsRow base T 3 val n (edgesL u v x n)) (hwf : ∀ j, j < n → (Lit.int .i64 (u j)).wf = true ∧ (Lit.int .i64 (v j)).wf = true ∧ (Lit.int .i64 (x j)).wf = true) :
    ∃ A c, val = .slice A n c ∧ EdgesIn w A n u v x ∧ n ≤ c ∧ c ≤ maxLen := by
  obtain ⟨A, c, e, hI⟩ := trips_own h hwf
  refine ⟨A, c, e, hI, ?_⟩
  obtain ⟨_, ⟨rfl, rfl⟩ | ⟨g, cap, cur, rfl, _, _, hn, hc, _⟩⟩ := h
  · cases e
    exact ⟨Nat.le_refl _, Nat.zero_le _⟩
  · cases e
    exact ⟨hn, hc⟩
theorem drows_cap (m k r : Nat) (A O : Option Addr) (c co : Nat) (U V X fo : Nat → Int) (w : World) (hm : m ≤ 60) (hk : k ≤ 200) (hG : GoodD m U V X k) (hE : EdgesIn w A k U V X) (hI : IntsIn w .i64 O r fo) (ho : Ordered k r fo) (hr : r ≤ k) :
    Calls Try.prog 44 #[.int .i64 m, .slice A k c, .slice O r co] w fun e w' => ∃ A' c', e = .returned (.tuple #[.slice A' (r + 1) c', .int .i64 0]) ∧ EdgesIn w' A' (r + 1) (rA m (nat U) (nat V) (nat fo) one) (rB m (nat U) (nat V) (nat fo)) (rC m (nat U) (nat V) (nat fo) one) ∧ Only [] w w' ∧ r + 1 ≤ c' ∧ c' ≤ maxLen := by
  refine (SRows_any m A O k c r co U V X fo w hE hI 0 (hG.code hm hk) true ⟨fun _ => ho, fun _ => rfl⟩ (by omega)).mono ?_
  rintro e w' (⟨h, _⟩ | ⟨_, h, _⟩ | ⟨_, _, vo, rfl, hrw⟩)
  · exact absurd rfl h
  · cases h
  obtain ⟨A', c', rfl, hE', h1, h2⟩ := trips_own2 hrw.1 fun j hj => row_wf (fun i hi => drawn_ends hG ho i (by omega)) (by rw [show one = fun _ => 1 from rfl, total_ones]; omega) (by omega)
  exact ⟨A', c', rfl, hE', hrw.2, h1, h2⟩
/-- The edges of the first j of an order, as a list of its own. -/
theorem labK_sel (p q o : Nat → Nat) (j : Nat) : labK (fun i => p (o i)) (fun i => q (o i)) id j = labK p q o j := by
  unfold labK eprs
  rfl
/-- The rows of an order of all edges end alike. -/
theorem row_end {n k : Nat} {p q o : Nat → Nat} (h : ((List.range k).map o).Perm ((List.range k).map id)) (wt : Nat → Nat) : rA n p q o wt k = largest n (labK p q id k) wt ∧ rB n p q o k = (roots n (labK p q id k) : Nat) ∧ rC n p q o wt k = (squares n (labK p q id k) wt : Nat) := by
  unfold rA rB rC
  rw [labK_perm h]
  exact ⟨rfl, rfl, rfl⟩
/-- The first rows hang on the first edges alone. -/
theorem labK_front_eq {p q o o' : Nat → Nat} {j : Nat} (h : ∀ i, i < j → o i = o' i) : labK p q o j = labK p q o' j := by
  unfold labK eprs
  congr 1
  refine List.map_congr_left fun a ha => ?_
  unfold epr
  rw [h a (List.mem_range.1 ha)]
theorem EdgesIn.front {w : World} {A : Option Addr} {n r : Nat} {u v x : Nat → Int} (h : EdgesIn w A n u v x) (hr : r ≤ n) : EdgesIn w A r u v x :=
  ⟨fun h0 => by
    obtain ⟨b, off, hA, hb, hc⟩ := h.row (by omega)
    exact ⟨b, off, hA, hb, fun j hj => hc j (by omega)⟩, fun j hj => h.wf j (by omega), by have := h.len; omega⟩
theorem IntsIn.front {w : World} {k : IntKind} {A : Option Addr} {n r : Nat} {f : Nat → Int} (h : IntsIn w k A n f) (hr : r ≤ n) : IntsIn w k A r f :=
  ⟨fun h0 => by
    obtain ⟨b, off, hA, hb, hc⟩ := h.row (by omega)
    exact ⟨b, off, hA, hb, fun j hj => hc j (by omega)⟩, fun j hj => h.wf j (by omega), by have := h.len; omega⟩
/-- A copy of a row of numbers by append to an empty list: a row of one's own. -/
theorem copy_own (A : Option Addr) (n c : Nat) (f : Nat → Int) (W : World) (h : IntsIn W .i64 A n f) (hn : n ≤ 65536) (ty : TypeId) :
    ∃ v' W', (Builtin.append_ #[68, 68] ty #[.slice (some ⟨W.heap.size, 0, none⟩) 0 0, .slice A n c]).run Try.prog (W.alloc (.cells #[] 3)) = .ok v' W' ∧ W'.ownsRow W.heap.size 3 1 v' n (intsL f n) ∧ Only [] W W' := by
  obtain ⟨i0, hi, hz0, hz1, hz2⟩ := info_parts infoInt
  cases A with
  | none =>
    obtain rfl : n = 0 := by
      rcases Nat.eq_zero_or_pos n with h0 | h0
      · exact h0
      · obtain ⟨b, off, hA, _⟩ := h.cell h0; cases hA
    exact ⟨_, _, run_append_none W Try.underlying68 hi c ty, World.ownsRow_made W #[] 0 (Nat.le_refl _) (Nat.zero_le _) rfl, (Only.refl [] W).alloc _⟩
  | some a =>
    obtain ⟨v', w1, hr, hown, hg, _⟩ := run_append_own (P := Try.prog) (W.alloc (.cells #[] 3)) W.heap.size 68 ty 3 i0 (.int .i64 0) 1 8 Try.underlying68 hi hz0 hz1 hz2 rfl (by decide) _ 0 [] (World.ownsRow_made W #[] 0 (Nat.le_refl _) (Nat.zero_le _) rfl) a n c (intsL f n) (by simp [intsL])
      (fun j y hj => by
        have hjn : j < n := by
          have := (List.getElem?_eq_some_iff.1 hj).1
          simpa [intsL] using this
        obtain ⟨b, off, hA, hc⟩ := h.cell hjn
        cases hA
        rw [intsL_at f hjn] at hj
        rw [Addr.add_lit]
        refine Lib.cell?_alloc_some _ ?_
        rw [hc]; exact hj)
      (fun y hy => by obtain ⟨z, _, rfl⟩ := List.mem_map.1 hy; rfl) (by unfold maxLen; omega) (by omega) (by simp)
    exact ⟨v', w1, hr, by simpa using hown, made_only hg rfl⟩

end Go.Proofs.Ytbafacdknaopjaa
