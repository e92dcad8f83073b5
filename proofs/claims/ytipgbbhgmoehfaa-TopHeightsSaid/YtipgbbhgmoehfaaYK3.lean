import Derived.Test.YtipgbbhgmoehfaaYK
import Derived.Test.YtipgbbhgmoehfaaYQ
import Derived.Test.YtipgbbhgmoehfaaYE1
/-
  The levels of a graph, each with the least greater weight (plain).
-/
namespace Go.Proofs.Ytipgbbhgmoehfaa
set_option linter.unusedSimpArgs false

/-- The first levels: r weights in increasing order, all of those up to the last one. -/
structure Low (m : Nat) (x : Nat → Int) (r : Nat) (th : Nat → Int) : Prop where
  up : ∀ i j, i < j → j < r → th i < th j
  of : ∀ i, i < r → ∃ j, j < m ∧ x j = th i
  all : ∀ i j, i < r → j < m → x j ≤ th i → ∃ k, k < r ∧ th k = x j
theorem Low.nil (m : Nat) (x th : Nat → Int) : Low m x 0 th := ⟨fun i j _ h => by omega, fun i h => by omega, fun i j h => by omega⟩
theorem Low.len {m : Nat} {x : Nat → Int} {r : Nat} {th : Nat → Int} (h : Low m x r th) : r ≤ m := by
  have hc : ∀ i, i < r → ∃ j, j < m ∧ x j = th i := h.of
  have hch : ∃ f : Nat → Nat, ∀ i, i < r → f i < m ∧ x (f i) = th i := ⟨fun i => if hi : i < r then (hc i hi).choose else 0, fun i hi => by
    simp only [dif_pos hi]
    exact (hc i hi).choose_spec⟩
  obtain ⟨f, hf⟩ := hch
  refine pigeon m r f (fun i hi => (hf i hi).1) fun i hi k hk e => ?_
  have h1 := (hf i hi).2
  have h2 := (hf k (by omega)).2
  rw [e] at h2
  have := h.up k i hk hi
  omega
theorem Low.low {m : Nat} {x : Nat → Int} {r : Nat} {th : Nat → Int} (h : Low m x (r + 1) th) {i : Nat} (hi : i < r + 1) : th i ≤ th r := by
  rcases Nat.eq_or_lt_of_le (Nat.le_of_lt_succ hi) with rfl | hl
  · exact Int.le_refl _
  · exact Int.le_of_lt (h.up i r hl (by omega))
theorem Low.done {m : Nat} {x : Nat → Int} {r : Nat} {th : Nat → Int} (h : Low m x r th) (hl : ∀ j, j < m → ¬ (r = 0 ∨ th (r - 1) < x j)) : Lev m x r th :=
  ⟨h.up, h.of, fun j hj => by
    have := hl j hj
    obtain ⟨k, hk, e⟩ := h.all (r - 1) j (by omega) hj (by omega)
    exact ⟨k, hk, e⟩⟩
theorem Low.next {m : Nat} {x : Nat → Int} {r : Nat} {th : Nat → Int} (h : Low m x r th) {nx : Nat} (hn : nx < m) (h1 : r = 0 ∨ th (r - 1) < x nx) (h2 : ∀ j, j < m → (r = 0 ∨ th (r - 1) < x j) → x nx ≤ x j) : Low m x (r + 1) (upd th r (x nx)) := by
  refine ⟨fun i j hij hj => ?_, fun i hi => ?_, fun i j hi hj hle => ?_⟩
  · rw [upd_lt (show i < r by omega)]
    rcases Nat.lt_or_eq_of_le (Nat.le_of_lt_succ hj) with hl | rfl
    · rw [upd_lt hl]; exact h.up i j hij hl
    · rw [upd_at]
      obtain ⟨r, rfl⟩ : ∃ r', j = r' + 1 := ⟨j - 1, by omega⟩
      have := h.low (i := i) (by omega)
      rw [show r + 1 - 1 = r by omega] at h1
      omega
  · rcases Nat.lt_or_eq_of_le (Nat.le_of_lt_succ hi) with hl | rfl
    · rw [upd_lt hl]; exact h.of i hl
    · rw [upd_at]; exact ⟨nx, hn, rfl⟩
  · by_cases hb : r = 0 ∨ th (r - 1) < x j
    · have g1 := h2 j hj hb
      rcases Nat.lt_or_eq_of_le (Nat.le_of_lt_succ hi) with hl | rfl
      · rw [upd_lt hl] at hle
        obtain ⟨r, rfl⟩ : ∃ r', r = r' + 1 := ⟨r - 1, by omega⟩
        have := h.low (i := i) (by omega)
        rw [show r + 1 - 1 = r by omega] at hb
        omega
      · rw [upd_at] at hle
        exact ⟨i, by omega, by rw [upd_at]; omega⟩
    · obtain ⟨k, hk, e⟩ := h.all (r - 1) j (by omega) hj (by omega)
      exact ⟨k, by omega, by rw [upd_lt hk]; exact e⟩

/-- The values of levels at these thresholds. -/
def levA (n : Nat) (p q : Nat → Nat) (m : Nat) (x : Nat → Int) (t : Int) : Int := largest n (labLe p q m x t) one
def levB (n : Nat) (p q : Nat → Nat) (m : Nat) (x : Nat → Int) (t : Int) : Int := (roots n (labLe p q m x t) : Nat)
def levC (n : Nat) (p q : Nat → Nat) (m : Nat) (x : Nat → Int) (t : Int) : Int := (squares n (labLe p q m x t) one : Nat)
def levT (n : Nat) (p q : Nat → Nat) (m : Nat) (x : Nat → Int) (th : Nat → Int) (r : Nat) : List Value :=
  levV th (fun i => levA n p q m x (th i)) (fun i => levB n p q m x (th i)) (fun i => levC n p q m x (th i)) (List.range r)
theorem levT_succ {n : Nat} {p q : Nat → Nat} {m : Nat} {x th : Nat → Int} (r : Nat) (t : Int) : levT n p q m x (upd th r t) (r + 1) = levT n p q m x th r ++ [.int .i64 t, .int .i64 (levA n p q m x t), .int .i64 (levB n p q m x t), .int .i64 (levC n p q m x t)] := by
  unfold levT
  rw [List.range_succ, levV_append]
  congr 1
  · unfold levV
    rw [List.flatMap_def, List.flatMap_def]
    congr 1
    exact List.map_congr_left fun i hi => by simp only [upd_lt (List.mem_range.1 hi)]
  · simp only [levV, List.flatMap_cons, List.flatMap_nil, List.append_nil, upd_at]
theorem levT_len (n : Nat) (p q : Nat → Nat) (m : Nat) (x th : Nat → Int) (r : Nat) : (levT n p q m x th r).length = r * 4 := by
  unfold levT levV
  induction r with
  | zero => rfl
  | succ r ih => rw [List.range_succ, List.flatMap_append, List.length_append, ih]; simp; omega
theorem levT_congr {n : Nat} {p q : Nat → Nat} {m : Nat} {x th th' : Nat → Int} {r : Nat} (h : ∀ i, i < r → th i = th' i) : levT n p q m x th r = levT n p q m x th' r := by
  unfold levT levV
  rw [List.flatMap_def, List.flatMap_def]
  congr 1
  exact List.map_congr_left fun i hi => by simp only [h i (List.mem_range.1 hi)]

theorem list_getD (l : List Nat) : l = (List.range l.length).map fun i => l.getD i 0 := by
  apply List.ext_getElem
  · simp
  · intro i h1 h2
    simp [List.getD_eq_getElem?_getD, List.getElem?_eq_getElem h1]
theorem end_above {m : Nat} {x : Nat → Int} {o : Nat → Nat} : ∀ d i, i + d + 1 = m → ∃ e, e ∈ ends m x o m ∧ x (o (e - 1)) = x (o i)
  | 0, i, hi => ⟨i + 1, (ends_mem m x o).2 ⟨by omega, by omega, by unfold isEnd; simp; omega⟩, by rw [Nat.add_sub_cancel]⟩
  | d + 1, i, hi => by
    by_cases he : isEnd m x o (i + 1) = true
    · exact ⟨i + 1, (ends_mem m x o).2 ⟨by omega, by omega, he⟩, by rw [Nat.add_sub_cancel]⟩
    · obtain ⟨e, h1, h2⟩ := end_above (m := m) (o := o) (x := x) d (i + 1) (by omega)
      refine ⟨e, h1, h2.trans ?_⟩
      unfold isEnd at he
      rw [Nat.add_sub_cancel] at he
      simp at he
      exact he.2
section
variable {m : Nat} {x : Nat → Int} {o : Nat → Nat} (h : ByWeight m x o)
include h
theorem end_lt {e : Nat} (he : e ∈ ends m x o m) {i : Nat} (h1 : e ≤ i) (h2 : i < m) : x (o (e - 1)) < x (o i) := by
  obtain ⟨g1, g2, g3⟩ := (ends_mem m x o).1 he
  unfold isEnd at g3
  have hne : x (o e) ≠ x (o (e - 1)) := by
    simp at g3
    rcases g3 with g3 | g3
    · omega
    · exact g3
  have a := h.le (show e - 1 ≤ e by omega) (show e < m by omega)
  have b := h.le h1 h2
  omega
theorem ends_lev : Lev m x (ends m x o m).length (fun i => x (o ((ends m x o m).getD i 0 - 1))) := by
  have hs := ends_sorted m x o m
  have mem : ∀ i, i < (ends m x o m).length → (ends m x o m).getD i 0 ∈ ends m x o m := fun i hi => by
    rw [List.getD_eq_getElem?_getD, List.getElem?_eq_getElem hi]
    exact List.getElem_mem hi
  refine ⟨fun i j hij hj => ?_, fun i hi => ?_, fun j hj => ?_⟩
  · have h1 := mem i (by omega)
    have h2 := (ends_mem m x o).1 (mem j hj)
    have hlt : (ends m x o m).getD i 0 < (ends m x o m).getD j 0 := by
      rw [List.getD_eq_getElem?_getD, List.getD_eq_getElem?_getD, List.getElem?_eq_getElem (show i < (ends m x o m).length by omega), List.getElem?_eq_getElem hj]
      exact List.pairwise_iff_getElem.1 hs i j (by omega) hj hij
    exact end_lt h h1 (by omega) (by omega)
  · have h1 := (ends_mem m x o).1 (mem i hi)
    exact ⟨_, h.lt (by omega), rfl⟩
  · obtain ⟨i, hi, rfl⟩ := h.hit hj
    obtain ⟨e, h1, h2⟩ := end_above (m := m) (o := o) (x := x) (m - 1 - i) i (by omega)
    obtain ⟨k, hk, rfl⟩ := List.getElem_of_mem h1
    exact ⟨k, hk, by rw [List.getD_eq_getElem?_getD, List.getElem?_eq_getElem hk]; exact h2⟩
theorem levW_eq (n : Nat) (p q : Nat → Nat) : levW n m p q o x m = levT n p q m x (fun i => x (o ((ends m x o m).getD i 0 - 1))) (ends m x o m).length := by
  unfold levW levT levV
  conv => lhs; rw [list_getD (ends m x o m)]
  rw [List.flatMap_map]
  rw [List.flatMap_def, List.flatMap_def]
  congr 1
  refine List.map_congr_left fun i hi => ?_
  have hi := List.mem_range.1 hi
  have hm : (ends m x o m).getD i 0 ∈ ends m x o m := by
    rw [List.getD_eq_getElem?_getD, List.getElem?_eq_getElem hi]
    exact List.getElem_mem hi
  obtain ⟨g1, g2, _⟩ := (ends_mem m x o).1 hm
  have e := labK_front (p := p) (q := q) h g2 (t := x (o ((ends m x o m).getD i 0 - 1))) (fun j hj => h.le (by omega) (by omega)) (fun j h1 h2 => end_lt h hm h1 h2)
  unfold rA rB rC levA levB levC
  rw [e]
end
/-- The same levels, whichever way they are found. -/
theorem lev_same {n : Nat} {p q : Nat → Nat} {m : Nat} {x : Nat → Int} {o : Nat → Nat} (h : ByWeight m x o) {r : Nat} {th : Nat → Int} (hl : Lev m x r th) : (ends m x o m).length = r ∧ levW n m p q o x m = levT n p q m x th r := by
  have e := (ends_lev h).count hl
  refine ⟨e, ?_⟩
  rw [levW_eq h, e]
  exact levT_congr fun i hi => (ends_lev h).pt hl i (by omega) hi

/-- Edges of a list of indexes. -/
def edgesOf (u v x : Nat → Int) (l : List Nat) : List Value := l.flatMap fun j => [.int .i64 (u j), .int .i64 (v j), .int .i64 (x j)]
def sel (l : List Nat) : Nat → Nat := fun j => l.getD j 0
theorem sel_at {l : List Nat} {j : Nat} (h : j < l.length) : sel l j ∈ l := by
  unfold sel
  rw [List.getD_eq_getElem?_getD, List.getElem?_eq_getElem h]
  exact List.getElem_mem h
theorem edgesL_sel (u v x : Nat → Int) (l : List Nat) : edgesL (fun j => u (sel l j)) (fun j => v (sel l j)) (fun j => x (sel l j)) l.length = edgesOf u v x l := by
  have key : ∀ k, k ≤ l.length → edgesL (fun j => u (sel l j)) (fun j => v (sel l j)) (fun j => x (sel l j)) k = edgesOf u v x (l.take k) := by
    intro k
    induction k with
    | zero => intro _; rfl
    | succ k ih =>
      intro hk
      rw [edgesL_succ, ih (by omega), List.take_succ_eq_append_getElem (show k < l.length by omega)]
      unfold edgesOf
      rw [List.flatMap_append]
      congr 1
      simp only [List.flatMap_cons, List.flatMap_nil, List.append_nil]
      have : sel l k = l[k] := by unfold sel; rw [List.getD_eq_getElem?_getD, List.getElem?_eq_getElem (show k < l.length by omega)]; rfl
      rw [this]
  have := key l.length (Nat.le_refl _)
  rwa [List.take_length] at this
theorem edgesOf_append (u v x : Nat → Int) (l l' : List Nat) : edgesOf u v x (l ++ l') = edgesOf u v x l ++ edgesOf u v x l' := by unfold edgesOf; rw [List.flatMap_append]
theorem leL_succ (m : Nat) (x : Nat → Int) (t : Int) : leL (m + 1) x t = leL m x t ++ if x m ≤ t then [m] else [] := by
  unfold leL
  rw [List.range_succ, List.filter_append]
  congr 1
  by_cases h : x m ≤ t
  · simp [h]
  · simp [h]
theorem leL_mem {m : Nat} {x : Nat → Int} {t : Int} {j : Nat} (h : j ∈ leL m x t) : j < m := List.mem_range.1 (List.mem_filter.1 h).1
theorem leL_len (m : Nat) (x : Nat → Int) (t : Int) : (leL m x t).length ≤ m := by
  have := List.length_filter_le (fun j => decide (x j ≤ t)) (List.range m)
  rwa [List.length_range] at this
theorem labK_sel (p q : Nat → Nat) (m : Nat) (x : Nat → Int) (t : Int) : labK (fun j => p (sel (leL m x t) j)) (fun j => q (sel (leL m x t) j)) id (leL m x t).length = labLe p q m x t := by
  unfold labK labLe eprs leP
  congr 1
  conv => rhs; rw [list_getD (leL m x t)]
  rw [List.map_map]
  rfl

end Go.Proofs.Ytipgbbhgmoehfaa
