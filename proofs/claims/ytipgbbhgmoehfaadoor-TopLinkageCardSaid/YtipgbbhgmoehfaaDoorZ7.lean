import Derived.StillTailTactics
import Derived.Maps.AppendAt
import Derived.Test.YtipgbbhgmoehfaaDoorZ6
import Derived.Test.YtipgbbhgmoehfaaDoorZ5
import Derived.Test.YtipgbbhgmoehfaaDoorYK
import Derived.Test.YtipgbbhgmoehfaaDoorYI
/-
  Chapter 27: the law's helper drawn.
-/
namespace Go.Proofs.YtipgbbhgmoehfaaDoor
open Go.RowKit
attribute [local go_sem] Oper.semAt_some
set_option linter.unusedSimpArgs false
set_option linter.unusedSectionVars false

/-- One number more. -/
def upd (f : Nat → Int) (k : Nat) (y : Int) : Nat → Int := fun j => if j = k then y else f j
theorem upd_at (f : Nat → Int) (k : Nat) (y : Int) : upd f k y k = y := if_pos rfl
theorem upd_lt {f : Nat → Int} {k j : Nat} {y : Int} (h : j < k) : upd f k y j = f j := if_neg (by omega)
theorem edgesL_congr {u v x u' v' x' : Nat → Int} {k : Nat} (h : ∀ j, j < k → u j = u' j ∧ v j = v' j ∧ x j = x' j) : edgesL u v x k = edgesL u' v' x' k := by
  induction k with
  | zero => rfl
  | succ k ih =>
    obtain ⟨h1, h2, h3⟩ := h k (by omega)
    rw [edgesL_succ, edgesL_succ, ih fun j hj => h j (by omega), h1, h2, h3]
theorem edgesL_upd (u v x : Nat → Int) (k : Nat) (a b c : Int) : edgesL (upd u k a) (upd v k b) (upd x k c) (k + 1) = edgesL u v x k ++ [.int .i64 a, .int .i64 b, .int .i64 c] := by
  rw [edgesL_succ, upd_at, upd_at, upd_at, edgesL_congr (u' := u) (v' := v) (x' := x) fun j hj => ⟨upd_lt hj, upd_lt hj, upd_lt hj⟩]
/-- The edges of a drawn graph. -/
def GoodD (m : Nat) (U V X : Nat → Int) (k : Nat) : Prop := ∀ j, j < k → GoodE m U V j ∧ 0 ≤ X j ∧ X j < 20
theorem GoodD.upd {m : Nat} {U V X : Nat → Int} {k : Nat} {a b c : Int} (h : GoodD m U V X k) (ha : 0 ≤ a ∧ a < m) (hb : 0 ≤ b ∧ b < m) (hab : a ≠ b) (hc : 0 ≤ c ∧ c < 20) : GoodD m (upd U k a) (upd V k b) (upd X k c) (k + 1) := by
  intro j hj
  rcases Nat.lt_or_eq_of_le (Nat.le_of_lt_succ hj) with hl | rfl
  · have := h j hl
    unfold GoodE InE at this ⊢
    rw [upd_lt hl, upd_lt hl, upd_lt hl]
    exact this
  · unfold GoodE InE
    rw [upd_at, upd_at, upd_at]
    exact ⟨⟨⟨ha, hb⟩, hab⟩, hc⟩
theorem GoodD.wf {m : Nat} {U V X : Nat → Int} {k : Nat} (h : GoodD m U V X k) (hm : m ≤ 60) : ∀ j, j < k → (Lit.int .i64 (U j)).wf = true ∧ (Lit.int .i64 (V j)).wf = true ∧ (Lit.int .i64 (X j)).wf = true := by
  intro j hj
  have := h j hj
  unfold GoodE InE at this
  exact ⟨wf_of (by omega) (by omega), wf_of (by omega) (by omega), wf_of (by omega) (by omega)⟩
theorem byte_nat {n : Int} (h : (Lit.int .u8 n).wf = true) : ∃ k : Nat, n = k ∧ k ≤ 255 := by
  have : 0 ≤ n ∧ n ≤ 255 := by simpa [Lit.wf, IntKind.min, IntKind.max, IntKind.bits, IntKind.signed] using h
  exact ⟨n.toNat, by omega, by omega⟩
/-- A drawn graph. -/
def DrawnPost (w : World) (e : Ending) (w' : World) : Prop := ∃ (m k : Nat) (A : Option Addr) (c : Nat) (U V X : Nat → Int), e = .returned (.tuple #[.int .i64 m, .slice A k c]) ∧ m ≤ 60 ∧ k ≤ 200 ∧ GoodD m U V X k ∧ EdgesIn w' A k U V X ∧ Only [] w w'
end Go.Proofs.YtipgbbhgmoehfaaDoor

/-
  The levels of a graph, each with the least greater weight (plain).
-/
namespace Go.Proofs.YtipgbbhgmoehfaaDoor
set_option linter.unusedSimpArgs false

/-- The first levels: r weights in increasing order, all of those up to the last one. -/
structure Low (m : Nat) (x : Nat → Int) (r : Nat) (th : Nat → Int) : Prop where
  up : ∀ i j, i < j → j < r → th i < th j
  of : ∀ i, i < r → ∃ j, j < m ∧ x j = th i
  all : ∀ i j, i < r → j < m → x j ≤ th i → ∃ k, k < r ∧ th k = x j
theorem Low.nil (m : Nat) (x th : Nat → Int) : Low m x 0 th := ⟨fun i j _ h => by omega, fun i h => by omega, fun i j h => by omega⟩
theorem Low.len {m : Nat} {x : Nat → Int} {r : Nat} {th : Nat → Int} (h : Low m x r th) : r ≤ m := by
  have hc : ∀ i, i < r → ∃ j, j < m ∧ x j = th i := h.of
  have hch : ∃ f : Nat → Nat, ∀ i, i < r → f i < m ∧ x (f i) = th i := ⟨fun i => if hi : i < r then (hc i hi).choose else 0, fun i hi => by
    simp only [dif_pos hi]
    exact (hc i hi).choose_spec⟩
  obtain ⟨f, hf⟩ := hch
  refine pigeon m r f (fun i hi => (hf i hi).1) fun i hi k hk e => ?_
  have h1 := (hf i hi).2
  have h2 := (hf k (by omega)).2
  rw [e] at h2
  have := h.up k i hk hi
  omega
theorem Low.low {m : Nat} {x : Nat → Int} {r : Nat} {th : Nat → Int} (h : Low m x (r + 1) th) {i : Nat} (hi : i < r + 1) : th i ≤ th r := by
  rcases Nat.eq_or_lt_of_le (Nat.le_of_lt_succ hi) with rfl | hl
  · exact Int.le_refl _
  · exact Int.le_of_lt (h.up i r hl (by omega))
theorem Low.done {m : Nat} {x : Nat → Int} {r : Nat} {th : Nat → Int} (h : Low m x r th) (hl : ∀ j, j < m → ¬ (r = 0 ∨ th (r - 1) < x j)) : Lev m x r th :=
  ⟨h.up, h.of, fun j hj => by
    have := hl j hj
    obtain ⟨k, hk, e⟩ := h.all (r - 1) j (by omega) hj (by omega)
    exact ⟨k, hk, e⟩⟩
theorem Low.next {m : Nat} {x : Nat → Int} {r : Nat} {th : Nat → Int} (h : Low m x r th) {nx : Nat} (hn : nx < m) (h1 : r = 0 ∨ th (r - 1) < x nx) (h2 : ∀ j, j < m → (r = 0 ∨ th (r - 1) < x j) → x nx ≤ x j) : Low m x (r + 1) (upd th r (x nx)) := by
  refine ⟨fun i j hij hj => ?_, fun i hi => ?_, fun i j hi hj hle => ?_⟩
  · rw [upd_lt (show i < r by omega)]
    rcases Nat.lt_or_eq_of_le (Nat.le_of_lt_succ hj) with hl | rfl
    · rw [upd_lt hl]; exact h.up i j hij hl
    · rw [upd_at]
      obtain ⟨r, rfl⟩ : ∃ r', j = r' + 1 := ⟨j - 1, by omega⟩
      have := h.low (i := i) (by omega)
      rw [show r + 1 - 1 = r by omega] at h1
      omega
  · rcases Nat.lt_or_eq_of_le (Nat.le_of_lt_succ hi) with hl | rfl
    · rw [upd_lt hl]; exact h.of i hl
    · rw [upd_at]; exact ⟨nx, hn, rfl⟩
  · by_cases hb : r = 0 ∨ th (r - 1) < x j
    · have g1 := h2 j hj hb
      rcases Nat.lt_or_eq_of_le (Nat.le_of_lt_succ hi) with hl | rfl
      · rw [upd_lt hl] at hle
        obtain ⟨r, rfl⟩ : ∃ r', r = r' + 1 := ⟨r - 1, by omega⟩
        have := h.low (i := i) (by omega)
        rw [show r + 1 - 1 = r by omega] at hb
        omega
      · rw [upd_at] at hle
        exact ⟨i, by omega, by rw [upd_at]; omega⟩
    · obtain ⟨k, hk, e⟩ := h.all (r - 1) j (by omega) hj (by omega)
      exact ⟨k, by omega, by rw [upd_lt hk]; exact e⟩

/-- The values of levels at these thresholds. -/
def levA (n : Nat) (p q : Nat → Nat) (m : Nat) (x : Nat → Int) (t : Int) : Int := largest n (labLe p q m x t) one
def levB (n : Nat) (p q : Nat → Nat) (m : Nat) (x : Nat → Int) (t : Int) : Int := (roots n (labLe p q m x t) : Nat)
def levC (n : Nat) (p q : Nat → Nat) (m : Nat) (x : Nat → Int) (t : Int) : Int := (squares n (labLe p q m x t) one : Nat)
def levT (n : Nat) (p q : Nat → Nat) (m : Nat) (x : Nat → Int) (th : Nat → Int) (r : Nat) : List Value :=
  levV th (fun i => levA n p q m x (th i)) (fun i => levB n p q m x (th i)) (fun i => levC n p q m x (th i)) (List.range r)
theorem levT_succ {n : Nat} {p q : Nat → Nat} {m : Nat} {x th : Nat → Int} (r : Nat) (t : Int) : levT n p q m x (upd th r t) (r + 1) = levT n p q m x th r ++ [.int .i64 t, .int .i64 (levA n p q m x t), .int .i64 (levB n p q m x t), .int .i64 (levC n p q m x t)] := by
  unfold levT
  rw [List.range_succ, levV_append]
  congr 1
  · unfold levV
    rw [List.flatMap_def, List.flatMap_def]
    congr 1
    exact List.map_congr_left fun i hi => by simp only [upd_lt (List.mem_range.1 hi)]
  · simp only [levV, List.flatMap_cons, List.flatMap_nil, List.append_nil, upd_at]
theorem levT_len (n : Nat) (p q : Nat → Nat) (m : Nat) (x th : Nat → Int) (r : Nat) : (levT n p q m x th r).length = r * 4 := by
  unfold levT levV
  induction r with
  | zero => rfl
  | succ r ih => rw [List.range_succ, List.flatMap_append, List.length_append, ih]; simp; omega
theorem levT_congr {n : Nat} {p q : Nat → Nat} {m : Nat} {x th th' : Nat → Int} {r : Nat} (h : ∀ i, i < r → th i = th' i) : levT n p q m x th r = levT n p q m x th' r := by
  unfold levT levV
  rw [List.flatMap_def, List.flatMap_def]
  congr 1
  exact List.map_congr_left fun i hi => by simp only [h i (List.mem_range.1 hi)]

theorem list_getD (l : List Nat) : l = (List.range l.length).map fun i => l.getD i 0 := by
  apply List.ext_getElem
  · simp
  · intro i h1 h2
    simp [List.getD_eq_getElem?_getD, List.getElem?_eq_getElem h1]
theorem end_above {m : Nat} {x : Nat → Int} {o : Nat → Nat} : ∀ d i, i + d + 1 = m → ∃ e, e ∈ ends m x o m ∧ x (o (e - 1)) = x (o i)
  | 0, i, hi => ⟨i + 1, (ends_mem m x o).2 ⟨by omega, by omega, by unfold isEnd; simp; omega⟩, by rw [Nat.add_sub_cancel]⟩
  | d + 1, i, hi => by
    by_cases he : isEnd m x o (i + 1) = true
    · exact ⟨i + 1, (ends_mem m x o).2 ⟨by omega, by omega, he⟩, by rw [Nat.add_sub_cancel]⟩
    · obtain ⟨e, h1, h2⟩ := end_above (m := m) (o := o) (x := x) d (i + 1) (by omega)
      refine ⟨e, h1, h2.trans ?_⟩
      unfold isEnd at he
      rw [Nat.add_sub_cancel] at he
      simp at he
      exact he.2
section
variable {m : Nat} {x : Nat → Int} {o : Nat → Nat} (h : ByWeight m x o)
include h
theorem end_lt {e : Nat} (he : e ∈ ends m x o m) {i : Nat} (h1 : e ≤ i) (h2 : i < m) : x (o (e - 1)) < x (o i) := by
  obtain ⟨g1, g2, g3⟩ := (ends_mem m x o).1 he
  unfold isEnd at g3
  have hne : x (o e) ≠ x (o (e - 1)) := by
    simp at g3
    rcases g3 with g3 | g3
    · omega
    · exact g3
  have a := h.le (show e - 1 ≤ e by omega) (show e < m by omega)
  have b := h.le h1 h2
  omega
theorem ends_lev : Lev m x (ends m x o m).length (fun i => x (o ((ends m x o m).getD i 0 - 1))) := by
  have hs := ends_sorted m x o m
  have mem : ∀ i, i < (ends m x o m).length → (ends m x o m).getD i 0 ∈ ends m x o m := fun i hi => by
    rw [List.getD_eq_getElem?_getD, List.getElem?_eq_getElem hi]
    exact List.getElem_mem hi
  refine ⟨fun i j hij hj => ?_, fun i hi => ?_, fun j hj => ?_⟩
  · have h1 := mem i (by omega)
    have h2 := (ends_mem m x o).1 (mem j hj)
    have hlt : (ends m x o m).getD i 0 < (ends m x o m).getD j 0 := by
      rw [List.getD_eq_getElem?_getD, List.getD_eq_getElem?_getD, List.getElem?_eq_getElem (show i < (ends m x o m).length by omega), List.getElem?_eq_getElem hj]
      exact List.pairwise_iff_getElem.1 hs i j (by omega) hj hij
    exact end_lt h h1 (by omega) (by omega)
  · have h1 := (ends_mem m x o).1 (mem i hi)
    exact ⟨_, h.lt (by omega), rfl⟩
  · obtain ⟨i, hi, rfl⟩ := h.hit hj
    obtain ⟨e, h1, h2⟩ := end_above (m := m) (o := o) (x := x) (m - 1 - i) i (by omega)
    obtain ⟨k, hk, rfl⟩ := List.getElem_of_mem h1
    exact ⟨k, hk, by rw [List.getD_eq_getElem?_getD, List.getElem?_eq_getElem hk]; exact h2⟩
theorem levW_eq (n : Nat) (p q : Nat → Nat) : levW n m p q o x m = levT n p q m x (fun i => x (o ((ends m x o m).getD i 0 - 1))) (ends m x o m).length := by
  unfold levW levT levV
  conv => lhs; rw [list_getD (ends m x o m)]
  rw [List.flatMap_map]
  rw [List.flatMap_def, List.flatMap_def]
  congr 1
  refine List.map_congr_left fun i hi => ?_
  have hi := List.mem_range.1 hi
  have hm : (ends m x o m).getD i 0 ∈ ends m x o m := by
    rw [List.getD_eq_getElem?_getD, List.getElem?_eq_getElem hi]
    exact List.getElem_mem hi
  obtain ⟨g1, g2, _⟩ := (ends_mem m x o).1 hm
  have e := labK_front (p := p) (q := q) h g2 (t := x (o ((ends m x o m).getD i 0 - 1))) (fun j hj => h.le (by omega) (by omega)) (fun j h1 h2 => end_lt h hm h1 h2)
  unfold rA rB rC levA levB levC
  rw [e]
end
/-- The same levels, whichever way they are found. -/
theorem lev_same {n : Nat} {p q : Nat → Nat} {m : Nat} {x : Nat → Int} {o : Nat → Nat} (h : ByWeight m x o) {r : Nat} {th : Nat → Int} (hl : Lev m x r th) : (ends m x o m).length = r ∧ levW n m p q o x m = levT n p q m x th r := by
  have e := (ends_lev h).count hl
  refine ⟨e, ?_⟩
  rw [levW_eq h, e]
  exact levT_congr fun i hi => (ends_lev h).pt hl i (by omega) hi

/-- Edges of a list of indexes. -/
def edgesOf (u v x : Nat → Int) (l : List Nat) : List Value := l.flatMap fun j => [.int .i64 (u j), .int .i64 (v j), .int .i64 (x j)]
def sel (l : List Nat) : Nat → Nat := fun j => l.getD j 0
theorem sel_at {l : List Nat} {j : Nat} (h : j < l.length) : sel l j ∈ l := by
  unfold sel
  rw [List.getD_eq_getElem?_getD, List.getElem?_eq_getElem h]
  exact List.getElem_mem h
theorem edgesL_sel (u v x : Nat → Int) (l : List Nat) : edgesL (fun j => u (sel l j)) (fun j => v (sel l j)) (fun j => x (sel l j)) l.length = edgesOf u v x l := by
  have key : ∀ k, k ≤ l.length → edgesL (fun j => u (sel l j)) (fun j => v (sel l j)) (fun j => x (sel l j)) k = edgesOf u v x (l.take k) := by
    intro k
    induction k with
    | zero => intro _; rfl
    | succ k ih =>
      intro hk
      rw [edgesL_succ, ih (by omega), List.take_succ_eq_append_getElem (show k < l.length by omega)]
      unfold edgesOf
      rw [List.flatMap_append]
      congr 1
      simp only [List.flatMap_cons, List.flatMap_nil, List.append_nil]
      have : sel l k = l[k] := by unfold sel; rw [List.getD_eq_getElem?_getD, List.getElem?_eq_getElem (show k < l.length by omega)]; rfl
      rw [this]
  have := key l.length (Nat.le_refl _)
  rwa [List.take_length] at this
theorem edgesOf_append (u v x : Nat → Int) (l l' : List Nat) : edgesOf u v x (l ++ l') = edgesOf u v x l ++ edgesOf u v x l' := by unfold edgesOf; rw [List.flatMap_append]
theorem leL_succ (m : Nat) (x : Nat → Int) (t : Int) : leL (m + 1) x t = leL m x t ++ if x m ≤ t then [m] else [] := by
  unfold leL
  rw [List.range_succ, List.filter_append]
  congr 1
  by_cases h : x m ≤ t
  · simp [h]
  · simp [h]
theorem leL_mem {m : Nat} {x : Nat → Int} {t : Int} {j : Nat} (h : j ∈ leL m x t) : j < m := List.mem_range.1 (List.mem_filter.1 h).1
theorem leL_len (m : Nat) (x : Nat → Int) (t : Int) : (leL m x t).length ≤ m := by
  have := List.length_filter_le (fun j => decide (x j ≤ t)) (List.range m)
  rwa [List.length_range] at this
theorem labK_sel (p q : Nat → Nat) (m : Nat) (x : Nat → Int) (t : Int) : labK (fun j => p (sel (leL m x t) j)) (fun j => q (sel (leL m x t) j)) id (leL m x t).length = labLe p q m x t := by
  unfold labK labLe eprs leP
  congr 1
  conv => rhs; rw [list_getD (leL m x t)]
  rw [List.map_map]
  rfl

end Go.Proofs.YtipgbbhgmoehfaaDoor

/-
  graph.Under: the graph of the edges up to a threshold.
-/
namespace Go.Proofs.YtipgbbhgmoehfaaDoor
open Go.RowKit
attribute [local go_sem] Oper.semAt_some
set_option linter.unusedSimpArgs false
set_option linter.unusedSectionVars false

end Go.Proofs.YtipgbbhgmoehfaaDoor

/-
  Copies of lists by append to an empty one.
-/
namespace Go.Proofs.YtipgbbhgmoehfaaDoor
open Go.RowKit
set_option linter.unusedSimpArgs false
set_option linter.unusedSectionVars false

theorem EdgesIn.nil {w : World} {A : Option Addr} {u v x : Nat → Int} : EdgesIn w A 0 u v x := ⟨fun h => by omega, fun j hj => by omega, by unfold maxLen; omega⟩
theorem wpList_append_of {P : Program} {w w' : World} {ops : Array Oper} {rest : List Oper} {o : Oper} {a : Act} {Q : Exit → Act → World → Prop} (hgd : o.guard = none) (s x : Operand) (t : TypeId)
    (ho : o.op = .call { callee := .builtin .append, args := #[s, x], argTypes := #[t, t] }) {v v' y : Value} (hs : a.eval s = v) (hx : a.eval x = y) (hr : (Builtin.append_ #[t, t] o.type #[v, y]).run P w = .ok v' w') (h : wpList P ops Q rest (a.put o.dst v') w') : wpList P ops Q (o :: rest) a w :=
  wpList_plain hgd fun K hK => by
    unfold Oper.wp execOp
    simp only [ho, resolve, invoke, builtin, Sem.run_bind, Sem.run_pure, Result.andThen_ok, List.map_toArray, List.map_cons, List.map_nil, hs, hx, hr]
    exact hK _ _ h
theorem run_append_none (W : World) {t e : TypeId} {i : TypeInfo} (ht : Tryd.prog.underlying t = some (.slice e)) (hi : Tryd.prog.info? e = some i) (c : Nat) (ty : TypeId) :
    (Builtin.append_ #[t, t] ty #[.slice (some ⟨W.heap.size, 0, none⟩) 0 0, .slice none 0 c]).run Tryd.prog (W.alloc (.cells #[] e)) = .ok (.slice (some ⟨W.heap.size, 0, none⟩) 0 0) (W.alloc (.cells #[] e)) := by
  simp [Builtin.append_, run_underlying ht, sizeOf, typeInfo, hi, Builtin.lenOf, Builtin.firstCells, storeCells]
theorem made_only {W w1 : World} {tmp : Obj} {v : Value} (hg : (W.alloc tmp).grownBy w1 v.ownBlock) (hv : v.ownBlock = some W.heap.size) : Only [] W w1 :=
  only_of_below' (((Below.refl _ W).alloc (Nat.le_refl _) _).grown hg (by simp) (by intro k hk; rw [hv] at hk; cases hk; exact Nat.le_refl _))
theorem copy_edges (A : Option Addr) (n c : Nat) (u v x : Nat → Int) (W : World) (h : EdgesIn W A n u v x) (hn : n ≤ 65536) (ty : TypeId) : ∃ A' c' W', (Builtin.append_ #[22, 22] ty #[.slice (some ⟨W.heap.size, 0, none⟩) 0 0, .slice A n c]).run Tryd.prog (W.alloc (.cells #[] 49)) = .ok (.slice A' n c') W' ∧ EdgesIn W' A' n u v x ∧ Only [] W W' := by
  obtain ⟨i0, hi, hz0, hz1, hz2⟩ := info_parts infoEdge
  cases A with
  | none =>
    obtain rfl : n = 0 := by
      rcases Nat.eq_zero_or_pos n with h0 | h0
      · exact h0
      · obtain ⟨b, off, hA, _⟩ := h.row h0; cases hA
    exact ⟨_, _, _, run_append_none W Tryd.underlying22 hi c ty, EdgesIn.nil, (Only.refl [] W).alloc _⟩
  | some a =>
    obtain ⟨v', w1, hr, hown, hg, _⟩ := run_append_own (P := Tryd.prog) (W.alloc (.cells #[] 49)) W.heap.size 22 ty 49 i0 (.agg #[.int .i64 0, .int .i64 0, .int .i64 0]) 3 24 Tryd.underlying22 hi hz0 hz1 hz2 rfl (by decide) _ 0 [] (World.ownsRow_made W #[] 0 (Nat.le_refl _) (Nat.zero_le _) rfl) a n c (edgesL u v x n) (by simp [edgesL])
      (fun j y hj => by
        have hjn : j < n * 3 := by
          have := (List.getElem?_eq_some_iff.1 hj).1
          simpa [edgesL] using this
        obtain ⟨b, off, hA, hc⟩ := h.flat hjn
        cases hA
        rw [edgesL_get u v x hjn] at hj
        rw [Addr.add_lit]
        refine Lib.cell?_alloc_some _ ?_
        rw [hc]; exact hj)
      (fun y hy => by obtain ⟨z, _, rfl⟩ := List.mem_map.1 hy; rfl) (by unfold maxLen; omega) (by omega) (by simp)
    obtain ⟨A', c', rfl, hE⟩ := edges_own (u := u) (v := v) (x := x) (n := n) (by simpa using hown) h.wf
    exact ⟨A', c', w1, hr, hE, made_only hg rfl⟩
theorem ints_owned2 {w : World} {base n : Nat} {T : TypeId} {val : Value} {f : Nat → Int} (h : w.ownsRow base T 1 val n ((List.range n).map fun i => .int .i64 (f i))) (hw : ∀ j, j < n → (Lit.int .i64 (f j)).wf = true) : ∃ A c, val = .slice A n c ∧ IntsIn w .i64 A n f := by
  obtain ⟨hl, ⟨rfl, rfl⟩ | ⟨g, cap, cur, rfl, hg, hh, hn, hc, hs, ht⟩⟩ := h
  · exact ⟨none, 0, rfl, fun h => by omega, hw, by unfold maxLen; omega⟩
  · refine ⟨_, cap, rfl, fun h0 => ⟨g, 0, rfl, heap_lt hh, fun j hj => ?_⟩, hw, by omega⟩
    have e : ((List.range n).map fun i => (.int .i64 (f i) : Value))[j]? = some (.int .i64 (f j)) := by simp [hj]
    rw [← ht, List.getElem?_take, if_pos (by omega)] at e
    rw [Nat.zero_add]
    exact cell_of_heap hh (by simpa using e)
theorem copy_of (ts te : TypeId) {i0 : TypeInfo} (hu : Tryd.prog.underlying ts = some (.slice te)) (hi : Tryd.prog.info? te = some i0) (hz0 : i0.zero = some (.int .i64 0)) (hz1 : i0.size = 1) (hz2 : i0.bytes = 8) (A : Option Addr) (n c : Nat) (f : Nat → Int) (W : World) (h : IntsIn W .i64 A n f) (hn : n ≤ 65536) (ty : TypeId) :
    ∃ A' c' W', (Builtin.append_ #[ts, ts] ty #[.slice (some ⟨W.heap.size, 0, none⟩) 0 0, .slice A n c]).run Tryd.prog (W.alloc (.cells #[] te)) = .ok (.slice A' n c') W' ∧ IntsIn W' .i64 A' n f ∧ Only [] W W' := by
  cases A with
  | none =>
    obtain rfl : n = 0 := by
      rcases Nat.eq_zero_or_pos n with h0 | h0
      · exact h0
      · obtain ⟨b, off, hA, _⟩ := h.cell h0; cases hA
    exact ⟨_, _, _, run_append_none W hu hi c ty, ⟨fun h => by omega, fun j hj => by omega, by unfold maxLen; omega⟩, (Only.refl [] W).alloc _⟩
  | some a =>
    obtain ⟨v', w1, hr, hown, hg, _⟩ := run_append_own (P := Tryd.prog) (W.alloc (.cells #[] te)) W.heap.size ts ty te i0 (.int .i64 0) 1 8 hu hi hz0 hz1 hz2 rfl (by decide) _ 0 [] (World.ownsRow_made W #[] 0 (Nat.le_refl _) (Nat.zero_le _) rfl) a n c ((List.range n).map fun i => .int .i64 (f i)) (by simp)
      (fun j y hj => by
        have hjn : j < n := by
          have := (List.getElem?_eq_some_iff.1 hj).1
          simpa using this
        obtain ⟨b, off, hA, hc⟩ := h.cell hjn
        cases hA
        have e : ((List.range n).map fun i => (.int .i64 (f i) : Value))[j]? = some (.int .i64 (f j)) := by simp [hjn]
        rw [e] at hj
        rw [Addr.add_lit]
        refine Lib.cell?_alloc_some _ ?_
        rw [hc]; exact hj)
      (fun y hy => by obtain ⟨z, _, rfl⟩ := List.mem_map.1 hy; rfl) (by unfold maxLen; omega) (by omega) (by simp)
    obtain ⟨A', c', rfl, hE⟩ := ints_owned2 (f := f) (n := n) (by simpa using hown) h.wf
    exact ⟨A', c', w1, hr, hE, made_only hg rfl⟩
theorem copy_int (A : Option Addr) (n c : Nat) (f : Nat → Int) (W : World) (h : IntsIn W .i64 A n f) (hn : n ≤ 65536) (ty : TypeId) :
    ∃ A' c' W', (Builtin.append_ #[31, 31] ty #[.slice (some ⟨W.heap.size, 0, none⟩) 0 0, .slice A n c]).run Tryd.prog (W.alloc (.cells #[] 3)) = .ok (.slice A' n c') W' ∧ IntsIn W' .i64 A' n f ∧ Only [] W W' := by
  obtain ⟨i0, hi, hz0, hz1, hz2⟩ := info_parts infoInt
  exact copy_of _ _ Tryd.underlying31 hi hz0 hz1 hz2 A n c f W h hn ty
theorem copy_int64 (A : Option Addr) (n c : Nat) (f : Nat → Int) (W : World) (h : IntsIn W .i64 A n f) (hn : n ≤ 65536) (ty : TypeId) :
    ∃ A' c' W', (Builtin.append_ #[24, 24] ty #[.slice (some ⟨W.heap.size, 0, none⟩) 0 0, .slice A n c]).run Tryd.prog (W.alloc (.cells #[] 2)) = .ok (.slice A' n c') W' ∧ IntsIn W' .i64 A' n f ∧ Only [] W W' := by
  obtain ⟨i0, hi, hz0, hz1, hz2⟩ := info_parts infoInt64
  exact copy_of _ _ Tryd.underlying24 hi hz0 hz1 hz2 A n c f W h hn ty

end Go.Proofs.YtipgbbhgmoehfaaDoor

/-
  Chapter 27: the law's helper picked.
-/
namespace Go.Proofs.YtipgbbhgmoehfaaDoor
open Go.RowKit
attribute [local go_sem] Oper.semAt_some
set_option linter.unusedSimpArgs false
set_option linter.unusedSectionVars false

def intsL (f : Nat → Int) (n : Nat) : List Value := (List.range n).map fun i => .int .i64 (f i)
theorem intsL_succ (f : Nat → Int) (n : Nat) : intsL f (n + 1) = intsL f n ++ [.int .i64 (f n)] := by
  unfold intsL; rw [List.range_succ, List.map_append]; rfl
theorem intsL_len (f : Nat → Int) (n : Nat) : (intsL f n).length = n := by simp [intsL]
theorem intsL_at (f : Nat → Int) {n j : Nat} (h : j < n) : (intsL f n)[j]? = some (.int .i64 (f j)) := by simp [intsL, h]
theorem intsL_congr {f g : Nat → Int} {n : Nat} (h : ∀ j, j < n → f j = g j) : intsL f n = intsL g n := by
  unfold intsL
  exact List.map_congr_left fun j hj => by rw [h j (List.mem_range.1 hj)]
theorem intsL_upd (f : Nat → Int) (n : Nat) (y : Int) : intsL (upd f n y) (n + 1) = intsL f n ++ [.int .i64 y] := by
  rw [intsL_succ, upd_at, intsL_congr fun j hj => upd_lt hj]
/-- One number less. -/
def del (f : Nat → Int) (k : Nat) : Nat → Int := fun j => if j < k then f j else f (j + 1)
theorem del_list (f : Nat → Int) {k q : Nat} (hk : k < q) : intsL (del f k) (q - 1) = (intsL f q).take k ++ (intsL f q).drop (k + 1) := by
  apply List.ext_getElem?
  intro j
  by_cases hj : j < q - 1
  · rw [intsL_at _ hj]
    unfold del
    by_cases hjk : j < k
    · rw [if_pos hjk, List.getElem?_append_left (by simp [intsL]; omega), List.getElem?_take, if_pos hjk, intsL_at _ (by omega)]
    · rw [if_neg hjk, List.getElem?_append_right (by simp [intsL]; omega), List.getElem?_drop]
      have e : (List.take k (intsL f q)).length = k := by simp [intsL]; omega
      rw [e, show k + 1 + (j - k) = j + 1 by omega, intsL_at _ (by omega)]
  · rw [List.getElem?_eq_none (by simp [intsL]; omega), List.getElem?_eq_none (by simp [intsL]; omega)]
/-- The lists that picking keeps. -/
structure PickI (w : World) (m q r : Nat) (L O : Nat → Int) (vl vo : Value) (W : World) : Prop where
  left : W.ownsRow w.heap.size 3 1 vl q (intsL L q)
  out : W.ownsRow w.heap.size 3 1 vo r (intsL O r)
  apart : ∀ g, vl.ownBlock = some g → vo.ownBlock ≠ some g
  lin : ∀ i, i < q → 0 ≤ L i ∧ L i < m
  ld : ∀ i, i < q → ∀ k, k < i → L k ≠ L i
  oin : ∀ i, i < r → 0 ≤ O i ∧ O i < m
  od : ∀ i, i < r → ∀ k, k < i → O k ≠ O i
  sep : ∀ i, i < q → ∀ j, j < r → L i ≠ O j
  bel : Below w.heap.size w W
section
variable {w : World} {m q r : Nat} {L O : Nat → Int} {vl vo : Value} {W : World}
theorem PickI.only (h : PickI w m q r L O vl vo W) {W' : World} (k : Only [] W W') : PickI w m q r L O vl vo W' :=
  ⟨(KeepC.of_only (b := 0) k).owns h.left, (KeepC.of_only (b := 0) k).owns h.out, h.apart, h.lin, h.ld, h.oin, h.od, h.sep, h.bel.trans (k.toBelow.mono h.bel.size)⟩
/-- The next one is taken: it lies in both lists for a moment. -/
theorem PickI.add (h : PickI w m q r L O vl vo W) {k : Nat} {tmp : Obj} {v' : Value} {w1 : World} (hown : w1.ownsRow w.heap.size 3 1 v' (r + 1) (intsL O r ++ [.int .i64 (L k)])) (hg : (W.alloc tmp).grownBy w1 vo.ownBlock) (hat : v'.ownBlock = vo.ownBlock ∨ v'.ownBlock = some (W.alloc tmp).heap.size) :
    w1.ownsRow w.heap.size 3 1 vl q (intsL L q) ∧ w1.ownsRow w.heap.size 3 1 v' (r + 1) (intsL (upd O r (L k)) (r + 1)) ∧ (∀ g, vl.ownBlock = some g → v'.ownBlock ≠ some g) ∧ Below w.heap.size w w1 := by
  refine ⟨(h.left.alloc tmp).kept hg ?_, by rw [intsL_upd]; exact hown, fun g hv => ?_, below_append h.bel h.out hg⟩
  · cases hv : vl.ownBlock with
    | none => exact .inl rfl
    | some g => exact .inr fun e => h.apart g hv e.symm
  · rcases hat with e | e
    · rw [e]; exact h.apart g hv
    · rw [e]
      have := (h.left.lt g hv).2
      intro h2
      cases h2
      rw [World.size_alloc] at this
      omega
/-- .. and is taken out of the other list. -/
theorem PickI.cut (h : PickI w m q r L O vl vo W) {k : Nat} (hk : k < q) {v' : Value} {w2 : World} {vl' : Value} (h2 : w2.ownsRow w.heap.size 3 1 vl' (q - 1) (intsL (del L k) (q - 1))) (ho : w2.ownsRow w.heap.size 3 1 v' (r + 1) (intsL (upd O r (L k)) (r + 1))) (ha : ∀ g, vl'.ownBlock = some g → v'.ownBlock ≠ some g) (hb : Below w.heap.size w w2) :
    PickI w m (q - 1) (r + 1) (del L k) (upd O r (L k)) vl' v' w2 := by
  have dl : ∀ i, i < q - 1 → ∃ j, j < q ∧ j ≠ k ∧ del L k i = L j ∧ (j = i ∧ i < k ∨ j = i + 1 ∧ k ≤ i) := fun i hi => by
    unfold del
    by_cases hik : i < k
    · exact ⟨i, by omega, by omega, if_pos hik, .inl ⟨rfl, hik⟩⟩
    · exact ⟨i + 1, by omega, by omega, if_neg hik, .inr ⟨rfl, by omega⟩⟩
  have ne : ∀ a b, a < q → b < q → a ≠ b → L a ≠ L b := fun a b hq1 hq2 hab => by
    rcases Nat.lt_or_gt_of_ne hab with hl | hl
    · exact h.ld b hq2 a hl
    · exact fun e => h.ld a hq1 b hl e.symm
  refine ⟨h2, ho, ha, fun i hi => ?_, fun i hi j hj => ?_, fun i hi => ?_, fun i hi j hj => ?_, fun i hi j hj => ?_, hb⟩
  · obtain ⟨a, a1, _, e, _⟩ := dl i hi
    rw [e]; exact h.lin a a1
  · obtain ⟨a, a1, _, e, ea⟩ := dl i hi
    obtain ⟨b, b1, _, e2, eb⟩ := dl j (by omega)
    rw [e, e2]
    exact ne b a b1 a1 (by omega)
  · rcases Nat.lt_or_eq_of_le (Nat.le_of_lt_succ hi) with hl | rfl
    · rw [upd_lt hl]; exact h.oin i hl
    · rw [upd_at]; exact h.lin k hk
  · rcases Nat.lt_or_eq_of_le (Nat.le_of_lt_succ hi) with hl | rfl
    · rw [upd_lt hl, upd_lt (by omega)]; exact h.od i hl j hj
    · rw [upd_at, upd_lt hj]; exact fun e => h.sep k hk j hj e.symm
  · obtain ⟨a, a1, a2, e, _⟩ := dl i hi
    rw [e]
    rcases Nat.lt_or_eq_of_le (Nat.le_of_lt_succ hj) with hl | rfl
    · rw [upd_lt hl]; exact h.sep a a1 j hl
    · rw [upd_at]; exact ne a k a1 hk a2
/-- One number is taken out of a list in place. -/
theorem remove_at {g cap k c2 : Nat} {base : Nat} (hown : W.ownsRow base 3 1 (.slice (some ⟨g, 0, none⟩) q cap) q (intsL L q)) (hk : k < q) (ty : TypeId) :
    ∃ w2, (Builtin.append_ #[31, 31] ty #[.slice (some ⟨g, 0, none⟩) k cap, .slice (if cap = k + 1 then some ⟨g, 0, none⟩ else some ⟨g, k + 1, none⟩) (q - (k + 1)) c2]).run Tryd.prog W = .ok (.slice (some ⟨g, 0, none⟩) (q - 1) cap) w2 ∧
      w2.ownsRow base 3 1 (.slice (some ⟨g, 0, none⟩) (q - 1) cap) (q - 1) (intsL (del L k) (q - 1)) ∧ W.grownBy w2 (some g) := by
  obtain ⟨i0, hi, hz0, hz1, hz2⟩ := info_parts infoInt
  obtain ⟨hl, ⟨h0, _⟩ | ⟨g', cap', cur, hv, hg, hh, hn, hc, hs, ht⟩⟩ := hown
  · cases h0
  cases hv
  have hq : q ≤ cur.size := by omega
  have eA : (if cap = k + 1 then some ⟨g, 0, none⟩ else some ⟨g, k + 1, none⟩ : Option Addr) = some ⟨g, if cap = k + 1 then 0 else k + 1, none⟩ := by split <;> rfl
  rw [eA]
  have hr := run_append_room (P := Tryd.prog) W 31 ty 3 i0 Tryd.underlying31 hi g k cap cur hh ⟨g, if cap = k + 1 then 0 else k + 1, none⟩ (q - (k + 1)) c2 ((intsL L q).drop (k + 1)) (by rw [hz1]; simp [intsL]) (fun j y hj => by
    rw [List.getElem?_drop] at hj
    have hjq : k + 1 + j < q := by
      have := (List.getElem?_eq_some_iff.1 hj).1
      simpa [intsL] using this
    rw [← ht, List.getElem?_take, if_pos (by omega)] at hj
    rw [Addr.add_lit, if_neg (by omega)]
    exact cell_of_heap hh (by simpa using hj)) (fun y hy => by
    have := List.mem_of_mem_drop hy
    obtain ⟨z, _, rfl⟩ := List.mem_map.1 this
    rfl) (by omega) (by rw [hz1]; simp [intsL]; omega)
  rw [show k + (q - (k + 1)) = q - 1 by omega] at hr
  have e1 : cur.toList.take (k * i0.size) = (intsL L q).take k := by
    rw [← ht, hz1, List.take_take, Nat.mul_one, Nat.mul_one, Nat.min_eq_left (by omega)]
  have elen : ((intsL L q).take k).length = k := by simp [intsL]; omega
  have elen2 : ((intsL L q).drop (k + 1)).length = q - (k + 1) := by simp [intsL]
  refine ⟨_, hr, ⟨by simp [intsL], .inr ⟨g, cap, _, rfl, hg, setRow_heap W g cur _ _ _ hh, by omega, hc, ?_, ?_⟩⟩, ⟨rfl, rfl, rfl, by simp, fun i _ hi => setRow_other W g i _ (fun e => hi (by rw [e]))⟩⟩
  · rw [e1]
    simp only [List.size_toArray, List.length_append, elen, elen2, List.length_drop, Array.length_toList]
    rw [hz1]
    omega
  · rw [e1, del_list L hk, show (q - 1) * 1 = ((intsL L q).take k ++ (intsL L q).drop (k + 1)).length by rw [List.length_append, elen, elen2]; omega]
    exact List.take_left
end
/-- An order that is picked. -/
def PickPost (m : Nat) (w : World) (e : Ending) (w' : World) : Prop := ∃ (r : Nat) (A : Option Addr) (c : Nat) (fo : Nat → Int), e = .returned (.slice A r c) ∧ IntsIn w' .i64 A r fo ∧ Ordered m r fo ∧ Only [] w w'
def PickPost2 (m : Nat) (w : World) (e : Ending) (w' : World) : Prop := ∃ (r : Nat) (A : Option Addr) (c : Nat) (fo : Nat → Int), e = .returned (.slice A r c) ∧ IntsIn w' .i64 A r fo ∧ Ordered m r fo ∧ Only [] w w' ∧ r ≤ c ∧ c ≤ maxLen
theorem short_nat {n : Int} (h : (Lit.int .u16 n).wf = true) : ∃ k : Nat, n = k ∧ k ≤ 65535 := by
  have : 0 ≤ n ∧ n ≤ 65535 := by simpa [Lit.wf, IntKind.min, IntKind.max, IntKind.bits, IntKind.signed] using h
  exact ⟨n.toNat, by omega, by omega⟩
theorem ints_owned3 {w : World} {base n : Nat} {T : TypeId} {val : Value} {f : Nat → Int} (h : w.ownsRow base T 1 val n (intsL f n)) (hw : ∀ j, j < n → (Lit.int .i64 (f j)).wf = true) : ∃ A c, val = .slice A n c ∧ IntsIn w .i64 A n f := by
  obtain ⟨hl, ⟨rfl, rfl⟩ | ⟨g, cap, cur, rfl, hg, hh, hn, hc, hs, ht⟩⟩ := h
  · exact ⟨none, 0, rfl, fun h => by omega, hw, by unfold maxLen; omega⟩
  · refine ⟨_, cap, rfl, fun h0 => ⟨g, 0, rfl, heap_lt hh, fun j hj => ?_⟩, hw, by omega⟩
    have e := intsL_at f hj
    rw [← ht, List.getElem?_take, if_pos (by omega)] at e
    rw [Nat.zero_add]
    exact cell_of_heap hh (by simpa using e)
theorem ints_owned4 {w : World} {base n : Nat} {T : TypeId} {val : Value} {f : Nat → Int} (h : w.ownsRow base T 1 val n (intsL f n)) (hw : ∀ j, j < n → (Lit.int .i64 (f j)).wf = true) : ∃ A c, val = .slice A n c ∧ IntsIn w .i64 A n f ∧ n ≤ c ∧ c ≤ maxLen := by
  obtain ⟨A, c, e, hI⟩ := ints_owned3 h hw
  refine ⟨A, c, e, hI, ?_⟩
  obtain ⟨_, ⟨rfl, rfl⟩ | ⟨g, cap, cur, rfl, _, _, hn, hc, _⟩⟩ := h
  · cases e
    exact ⟨Nat.le_refl _, Nat.zero_le _⟩
  · cases e
    exact ⟨hn, hc⟩
end Go.Proofs.YtipgbbhgmoehfaaDoor

/-
  Chapter 27: the rows of a drawn graph in a picked order.
-/
namespace Go.Proofs.YtipgbbhgmoehfaaDoor
open Go.RowKit
attribute [local go_sem] Oper.semAt_some
set_option linter.unusedSimpArgs false
set_option linter.unusedSectionVars false

def nat (f : Nat → Int) : Nat → Nat := fun j => (f j).toNat
theorem GoodD.code {m k : Nat} {U V X : Nat → Int} (h : GoodD m U V X k) (hm : m ≤ 60) (hk : k ≤ 200) : GCode m k U V 0 := .inr ⟨by omega, .inr ⟨fun j hj => (h j hj).1, rfl⟩⟩
theorem drawn_ends {m k r : Nat} {U V X fo : Nat → Int} (h : GoodD m U V X k) (ho : Ordered k r fo) : ∀ i, i < r → nat U (nat fo i) < m ∧ nat V (nat fo i) < m := by
  intro i hi
  have hl := ho.1 i hi
  have := (h (fo i).toNat (by omega)).1
  unfold GoodE InE at this
  unfold nat
  omega
theorem jmp_ok (u : Nat → Int) : ∀ n, ∃ i : Nat, ∃ b : Int, jmp u (n + 1) = ((i : Int), b) ∧ i < n + 1 ∧ 0 ≤ b ∧ (i = 0 ↔ b = 0) ∧ (0 < i → u i - u (i - 1) = b) ∧ ∀ j, 1 ≤ j → j < n + 1 → u j - u (j - 1) ≤ b ∧ (u j - u (j - 1) = b → ¬ j < i)
  | 0 => ⟨0, 0, rfl, by omega, by omega, by omega, fun h => by omega, fun j h1 h2 => by omega⟩
  | n + 1 => by
    obtain ⟨i, b, e, h1, h2, h3, h4, h5⟩ := jmp_ok u n
    rw [jmp_next u (show 1 ≤ n + 1 by omega), e]
    dsimp only
    rw [show n + 1 - 1 = n by omega]
    by_cases h : b < u (n + 1) - u n
    · rw [if_pos h]
      refine ⟨n + 1, _, rfl, by omega, by omega, by omega, fun _ => by rw [show n + 1 - 1 = n by omega], fun j g1 g2 => ?_⟩
      rcases Nat.lt_or_eq_of_le (Nat.le_of_lt_succ g2) with hl | rfl
      · have := (h5 j g1 hl).1
        exact ⟨by omega, fun e => by omega⟩
      · rw [show n + 1 - 1 = n by omega]
        exact ⟨Int.le_refl _, fun _ => by omega⟩
    · rw [if_neg h]
      refine ⟨i, b, rfl, by omega, h2, h3, h4, fun j g1 g2 => ?_⟩
      rcases Nat.lt_or_eq_of_le (Nat.le_of_lt_succ g2) with hl | rfl
      · exact h5 j g1 hl
      · rw [show n + 1 - 1 = n by omega]
        exact ⟨by omega, fun _ => by omega⟩
theorem rA_next {p q o : Nat → Nat} {n k : Nat} (wt : Nat → Nat) (h : ∀ i, i < k + 1 → p (o i) < n ∧ q (o i) < n) : rA n p q o wt k ≤ rA n p q o wt (k + 1) := by
  rcases row_step wt h with e | ⟨s, t, _, _, _, _, e, _⟩
  · unfold rA; rw [e]; exact Int.le_refl _
  · rw [e]; exact Int.le_max_left _ _
theorem rA_mono {p q o : Nat → Nat} {n r : Nat} (wt : Nat → Nat) (h : ∀ i, i < r → p (o i) < n ∧ q (o i) < n) {i j : Nat} (hij : i ≤ j) (hj : j ≤ r) : rA n p q o wt i ≤ rA n p q o wt j := by
  induction j with
  | zero => obtain rfl : i = 0 := by omega
            exact Int.le_refl _
  | succ j ih =>
    rcases Nat.lt_or_eq_of_le hij with hl | rfl
    · exact Int.le_trans (ih (by omega) (by omega)) (rA_next wt fun a ha => h a (by omega))
    · exact Int.le_refl _
theorem largest_top (n : Nat) (lab wt : Nat → Nat) : largest n lab wt ≤ (total n wt : Nat) := maxL_le (by omega) fun v hv => by
  obtain ⟨a, _, _, rfl⟩ := setsL_mem hv
  have := sumOf_le n lab wt a
  omega
theorem rA_range {p q o : Nat → Nat} {n k : Nat} : 0 ≤ rA n p q o one k ∧ rA n p q o one k ≤ n := by
  have h1 := largest_top n (labK p q o k) one
  have h2 := maxL_nonneg (setsL n (labK p q o k) one)
  rw [total_one] at h1
  exact ⟨h2, h1⟩
/-- A giant that is found among rising sizes. -/
theorem giant_ok {r : Nat} {u : Nat → Int} {s i : Int} {b : Bool} (h : GiantIs (r + 1) u s i b) (hm : ∀ i j, i ≤ j → j ≤ r → u i ≤ u j) : b = decide (s ≤ u r) ∧ (b = false → i = 0) ∧ (b = true → ∃ k : Nat, i = k ∧ k < r + 1 ∧ s ≤ u k ∧ (0 < k → u (k - 1) < s)) := by
  rcases h with ⟨rfl, k, rfl, h1, h2, h3⟩ | ⟨rfl, rfl, h1⟩
  · refine ⟨?_, fun h => (by cases h), fun _ => ⟨k, rfl, h1, h2, fun h => h3 _ (by omega)⟩⟩
    have := hm k r (by omega) (Nat.le_refl _)
    symm
    simp
    omega
  · refine ⟨?_, fun _ => rfl, fun h => by cases h⟩
    have := h1 r (by omega)
    symm
    simp
    omega
theorem jump_ok {n : Nat} {u : Nat → Int} {i b : Int} (h : JumpIs (n + 1) u i b) (hf : Fair (n + 1) u) : ∃ a : Nat, i = a ∧ a < n + 1 ∧ 0 ≤ b ∧ (a = 0 ↔ b = 0) ∧ (0 < a → u a - u (a - 1) = b) ∧ ∀ j, 1 ≤ j → j < n + 1 → u j - u (j - 1) ≤ b ∧ (u j - u (j - 1) = b → ¬ j < a) := by
  rcases h with ⟨_, e⟩ | ⟨h, _⟩
  · obtain ⟨a, d, e2, rest⟩ := jmp_ok u n
    rw [e2] at e
    cases e
    exact ⟨a, rfl, rest⟩
  · exact absurd hf h

end Go.Proofs.YtipgbbhgmoehfaaDoor
