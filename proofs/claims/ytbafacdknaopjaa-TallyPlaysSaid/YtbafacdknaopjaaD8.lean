/-
  Bags of lists, and the weights of sets (plain).
-/
import Derived.Test.YtbafacdknaopjaaD7
import Derived.Test.YtbafacdknaopjaaB2
import Derived.Test.YtbafacdknaopjaaA15
namespace Go.Proofs.Ytbafacdknaopjaa
open Go.RowKit
set_option linter.unusedSimpArgs false

theorem tSum_lput {x : Int} {n : Nat} {l : Items} (h : Sorted l) : itSum (lput x n l) + x * (lcnt x l : Nat) = itSum l + x * n := by
  induction l with
  | nil =>
    simp only [lput]
    split
    · rename_i h0; subst h0; simp [itSum, lcnt]
    · simp [itSum, lcnt]
  | cons p l ih =>
    have h2 := List.pairwise_cons.1 h
    have ih := ih h2.2
    simp only [lput]
    by_cases h1 : p.1 < x
    · rw [if_pos h1]
      simp only [itSum, lcnt, if_neg (show ¬ p.1 = x by omega)]
      omega
    · rw [if_neg h1]
      by_cases h3 : p.1 = x
      · rw [if_pos h3]
        subst h3
        have hx : lcnt p.1 (p :: l) = p.2 := by simp [lcnt]
        rw [hx]
        split
        · rename_i h0; subst h0; simp only [itSum]; simp; omega
        · simp only [itSum]; omega
      · rw [if_neg h3]
        have hx : lcnt x (p :: l) = 0 := lcnt_none fun q hq => by
          rcases List.mem_cons.1 hq with rfl | hq
          · exact h3
          · have := h2.1 q hq; omega
        rw [hx]
        split
        · rename_i h0; subst h0; simp
        · simp only [itSum]; simp; omega
theorem tSq_lput {x : Int} {n : Nat} {l : Items} (h : Sorted l) : itSq (lput x n l) + x.natAbs * x.natAbs * lcnt x l = itSq l + x.natAbs * x.natAbs * n := by
  induction l with
  | nil =>
    simp only [lput]
    split
    · rename_i h0; subst h0; simp [itSq, lcnt]
    · simp [itSq, lcnt]
  | cons p l ih =>
    have h2 := List.pairwise_cons.1 h
    have ih := ih h2.2
    simp only [lput]
    by_cases h1 : p.1 < x
    · rw [if_pos h1]
      simp only [itSq, lcnt, if_neg (show ¬ p.1 = x by omega)]
      omega
    · rw [if_neg h1]
      by_cases h3 : p.1 = x
      · rw [if_pos h3]
        subst h3
        have hx : lcnt p.1 (p :: l) = p.2 := by simp [lcnt]
        rw [hx]
        split
        · rename_i h0; subst h0; simp only [itSq]; simp; omega
        · simp only [itSq]; omega
      · rw [if_neg h3]
        have hx : lcnt x (p :: l) = 0 := lcnt_none fun q hq => by
          rcases List.mem_cons.1 hq with rfl | hq
          · exact h3
          · have := h2.1 q hq; omega
        rw [hx]
        split
        · rename_i h0; subst h0; simp
        · simp only [itSq]; simp; omega


/-- One more of v. -/
def add1 (L : Items) (v : Int) : Items := lput v (lcnt v L + 1) L
/-- The numbers of a list, with how often each is there. -/
def bagOf (l : List Int) : Items := l.foldl add1 []
def cntL (x : Int) (l : List Int) : Nat := l.countP fun y => decide (y = x)
def sqL : List Int → Nat
  | [] => 0
  | v :: l => v.natAbs * v.natAbs + sqL l
def sumL : List Int → Int
  | [] => 0
  | v :: l => v + sumL l
theorem bagOf_snoc (l : List Int) (v : Int) : bagOf (l ++ [v]) = add1 (bagOf l) v := by simp [bagOf, List.foldl_append]
theorem add1_pos {L : Items} (h : ∀ p ∈ L, 1 ≤ p.2) (v : Int) : ∀ p ∈ add1 L v, 1 ≤ p.2 := lput_pos h
theorem fold_all (l : List Int) : ∀ L : Items, Sorted L → (∀ p ∈ L, 1 ≤ p.2) → Sorted (l.foldl add1 L) ∧ (∀ p ∈ l.foldl add1 L, 1 ≤ p.2) ∧ (∀ x, lcnt x (l.foldl add1 L) = lcnt x L + cntL x l) ∧ T.szL (l.foldl add1 L) = T.szL L + l.length ∧
    itSq (l.foldl add1 L) = itSq L + sqL l ∧ itSum (l.foldl add1 L) = itSum L + sumL l ∧ (∀ p ∈ l.foldl add1 L, p ∈ L ∨ p.1 ∈ l ∨ ∃ q ∈ L, q.1 = p.1) := by
  induction l with
  | nil => exact fun L h p => ⟨h, p, fun x => by simp [cntL], by simp, by simp [sqL], by simp [sumL], fun p hp => .inl hp⟩
  | cons v l ih =>
    intro L h p
    obtain ⟨a1, a2, a3, a4, a5, a6, a7⟩ := ih (add1 L v) (lput_sorted h) (add1_pos p v)
    refine ⟨a1, a2, fun x => ?_, ?_, ?_, ?_, fun q hq => ?_⟩
    · show lcnt x (l.foldl add1 (add1 L v)) = _
      rw [a3 x]
      unfold add1
      rw [lcnt_lput h]
      unfold cntL
      rw [List.countP_cons]
      by_cases e : x = v
      · subst e; simp; omega
      · rw [if_neg e, if_neg (by simpa using fun h : v = x => e h.symm)]; rfl
    · show T.szL (l.foldl add1 (add1 L v)) = _
      have := lput_sz (x := v) (n := lcnt v L + 1) h
      rw [a4]
      unfold add1
      simp only [List.length_cons]
      omega
    · show itSq (l.foldl add1 (add1 L v)) = _
      have := tSq_lput (x := v) (n := lcnt v L + 1) h
      rw [Nat.mul_add, Nat.mul_one] at this
      rw [a5]
      unfold add1
      simp only [sqL]
      omega
    · show itSum (l.foldl add1 (add1 L v)) = _
      have := tSum_lput (x := v) (n := lcnt v L + 1) h
      rw [Int.natCast_add, Int.mul_add] at this
      rw [a6]
      unfold add1
      simp only [sumL]
      omega
    · rcases a7 q hq with h7 | h7 | ⟨r, hr, h7⟩
      · rcases lput_mem h7 with ⟨rfl, _⟩ | h8
        · exact .inr (.inl (by simp))
        · exact .inl h8
      · exact .inr (.inl (List.mem_cons_of_mem _ h7))
      · rcases lput_mem hr with ⟨rfl, _⟩ | h8
        · exact .inr (.inl (by rw [← h7]; simp))
        · exact .inr (.inr ⟨r, h8, h7⟩)
theorem nilS : Sorted ([] : Items) := List.Pairwise.nil
theorem nilP : ∀ p ∈ ([] : Items), 1 ≤ p.2 := fun p hp => by simp at hp
theorem bagOf_sorted (l : List Int) : Sorted (bagOf l) := (fold_all l [] nilS nilP).1
theorem bagOf_pos (l : List Int) : ∀ p ∈ bagOf l, 1 ≤ p.2 := (fold_all l [] nilS nilP).2.1
theorem bagOf_cnt (l : List Int) (x : Int) : lcnt x (bagOf l) = cntL x l := by
  have := (fold_all l [] nilS nilP).2.2.1 x
  rw [show lcnt x [] = 0 from rfl, Nat.zero_add] at this
  exact this
theorem bagOf_sz (l : List Int) : T.szL (bagOf l) = l.length := by
  have := (fold_all l [] nilS nilP).2.2.2.1
  rw [show T.szL [] = 0 from rfl, Nat.zero_add] at this
  exact this
theorem bagOf_sq (l : List Int) : itSq (bagOf l) = sqL l := by
  have := (fold_all l [] nilS nilP).2.2.2.2.1
  rw [show itSq [] = 0 from rfl, Nat.zero_add] at this
  exact this
theorem bagOf_sum (l : List Int) : itSum (bagOf l) = sumL l := by
  have := (fold_all l [] nilS nilP).2.2.2.2.2.1
  rw [show itSum [] = 0 from rfl, Int.zero_add] at this
  exact this
theorem bagOf_mem {l : List Int} {p : Int × Nat} (h : p ∈ bagOf l) : p.1 ∈ l := by
  rcases (fold_all l [] nilS nilP).2.2.2.2.2.2 p h with h | h | ⟨q, h, _⟩
  · simp at h
  · exact h
  · simp at h
theorem bagOf_has {l : List Int} {v : Int} (h : v ∈ l) : ∃ n, (v, n) ∈ bagOf l := by
  have h1 : 0 < cntL v l := List.countP_pos_iff.2 ⟨v, h, by simp⟩
  rw [← bagOf_cnt] at h1
  generalize bagOf l = L at h1
  induction L with
  | nil => exact absurd h1 (by simp [lcnt])
  | cons p L ih =>
    simp only [lcnt] at h1
    by_cases e : p.1 = v
    · exact ⟨p.2, by rw [← e]; exact List.mem_cons_self⟩
    · rw [if_neg e] at h1
      obtain ⟨n, hn⟩ := ih h1
      exact ⟨n, List.mem_cons_of_mem _ hn⟩

/-- The weights of the sets, in the order of their least elements. -/
def setsL (n : Nat) (lab wt : Nat → Nat) : List Int := ((List.range n).filter fun a => lab a == a).map fun a => (sumOf n lab wt a : Int)
theorem setsL_len (n : Nat) (lab wt : Nat → Nat) : (setsL n lab wt).length = many n fun a => lab a == a := by
  unfold setsL many
  rw [List.length_map, List.countP_eq_length_filter]
theorem setsL_cnt (n : Nat) (lab wt : Nat → Nat) (v : Int) : cntL v (setsL n lab wt) = setsV n lab wt v := by
  unfold setsL setsV many cntL
  rw [List.countP_map, List.countP_filter]
  refine congrArg (fun p => List.countP p _) (funext fun a => ?_)
  simp [Bool.and_comm]
theorem setsL_mem {n : Nat} {lab wt : Nat → Nat} {v : Int} (h : v ∈ setsL n lab wt) : ∃ a, a < n ∧ lab a = a ∧ v = (sumOf n lab wt a : Int) := by
  unfold setsL at h
  obtain ⟨a, ha, rfl⟩ := List.mem_map.1 h
  have := List.mem_filter.1 ha
  exact ⟨a, List.mem_range.1 this.1, by simpa using this.2, rfl⟩
theorem setsL_of {n : Nat} {lab wt : Nat → Nat} {a : Nat} (h : a < n) (hl : lab a = a) : (sumOf n lab wt a : Int) ∈ setsL n lab wt := by
  unfold setsL
  exact List.mem_map.2 ⟨a, List.mem_filter.2 ⟨List.mem_range.2 h, by simpa using hl⟩, rfl⟩

/-- The last of the numbers. -/
def lastV (L : Items) : Int := lkth L (T.szL L - 1)
theorem lkth_nil (k : Nat) : lkth [] k = 0 := rfl
theorem lastV_mem {L : Items} (h : 0 < T.szL L) : ∃ n, (lastV L, n) ∈ L := lkth_mem (by omega)
theorem lrank_cnt_le {x : Int} {l : Items} (h : Sorted l) {p : Int × Nat} (hp : p ∈ l) (hx : x < p.1) : lrank x l + lcnt x l + p.2 ≤ T.szL l := by
  induction l with
  | nil => simp at hp
  | cons q l ih =>
    have h2 := List.pairwise_cons.1 h
    simp only [lrank, lcnt, T.szL]
    rcases List.mem_cons.1 hp with rfl | hp
    · rw [if_neg (by omega), if_neg (by omega), lrank_none fun q hq => by have := h2.1 q hq; omega, lcnt_none fun q hq => by have := h2.1 q hq; omega]
      omega
    · have := ih h2.2 hp
      have hq := h2.1 p hp
      by_cases e : q.1 = x
      · rw [if_pos e, if_neg (by omega)]
        have h0 : lcnt x l = 0 := lcnt_none fun r hr => by have := h2.1 r hr; omega
        omega
      · rw [if_neg e]
        split <;> omega
theorem lastV_max {L : Items} (h : Sorted L) (hp : ∀ p ∈ L, 1 ≤ p.2) {q : Int × Nat} (hq : q ∈ L) : q.1 ≤ lastV L := by
  have h0 : 0 < T.szL L := by have := cnt_le_szL hq; have := hp q hq; omega
  have h1 := lkth_rank h (k := T.szL L - 1) (by omega)
  refine Int.not_lt.1 fun hlt => ?_
  have h2 := lrank_cnt_le h hq hlt
  have h3 := hp q hq
  unfold lastV at h2
  omega
end Go.Proofs.Ytbafacdknaopjaa
