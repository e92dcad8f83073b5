/-
  The numbers of a bag as a list: ranks, the sequence, what putting does to them (plain).
-/
import Derived.Test.YtbafacdknaopjaaA11
namespace Go.Proofs.Ytbafacdknaopjaa

/-- How many are smaller. -/
def lrank (x : Int) : Items → Nat
  | [] => 0
  | p :: l => (if p.1 < x then p.2 else 0) + lrank x l
def lkth : Items → Nat → Int
  | [], _ => 0
  | p :: l, k => if k < p.2 then p.1 else lkth l (k - p.2)
theorem lrank_append (x : Int) (a b : Items) : lrank x (a ++ b) = lrank x a + lrank x b := by
  induction a with
  | nil => simp [lrank]
  | cons p a ih => simp only [List.cons_append, lrank, ih]; omega
theorem lrank_all {x : Int} {l : Items} (h : ∀ p ∈ l, p.1 < x) : lrank x l = T.szL l := by
  induction l with
  | nil => rfl
  | cons p l ih => simp only [lrank, T.szL, if_pos (h p List.mem_cons_self), ih fun q hq => h q (List.mem_cons_of_mem _ hq)]
theorem lrank_none {x : Int} {l : Items} (h : ∀ p ∈ l, x ≤ p.1) : lrank x l = 0 := by
  induction l with
  | nil => rfl
  | cons p l ih =>
    have := h p List.mem_cons_self
    simp only [lrank, if_neg (show ¬ p.1 < x by omega), ih fun q hq => h q (List.mem_cons_of_mem _ hq)]
theorem rank_items (x : Int) (t : T) (h : Sorted t.items) : t.rank x = lrank x t.items := by
  induction t with
  | leaf => rfl
  | node g l y u r ihl ihr =>
    obtain ⟨h1, h2, h3, h4⟩ := sorted_split h
    simp only [T.rank, T.items, lrank_append, lrank]
    split
    · rename_i hle
      rw [ihl h1, if_neg (by omega), lrank_none (l := r.items) fun p hp => by have : y < p.1 := h4 p hp; omega]
      omega
    · rename_i hgt
      rw [ihr h2, if_pos (by omega), lrank_all (l := l.items) fun p hp => by have : p.1 < y := h3 p hp; omega, T.sz_items]
      omega
theorem lkth_append (a b : Items) (k : Nat) : lkth (a ++ b) k = if k < T.szL a then lkth a k else lkth b (k - T.szL a) := by
  induction a generalizing k with
  | nil => simp [T.szL]
  | cons p a ih =>
    have e : T.szL (p :: a) = p.2 + T.szL a := rfl
    rw [e]
    simp only [List.cons_append, lkth, ih]
    split
    · rw [if_pos (by omega)]
    · split
      · rw [if_pos (by omega)]
      · rw [if_neg (by omega), Nat.sub_sub]
theorem kth_items (t : T) (k : Nat) (hk : k < t.sz) : t.kth k = lkth t.items k := by
  induction t generalizing k with
  | leaf => simp [T.sz] at hk
  | node g l y u r ihl ihr =>
    simp only [T.sz] at hk
    simp only [T.kth, T.items, lkth_append, lkth, ← T.sz_items]
    by_cases h1 : k < l.sz
    · rw [if_pos h1, if_pos h1, ihl k h1]
    · rw [if_neg h1, if_neg h1]
      by_cases h2 : k < l.sz + u
      · rw [if_pos h2, if_pos (by omega)]
      · rw [if_neg h2, if_neg (by omega), ihr _ (by omega), show k - (l.sz + u) = k - l.sz - u by omega]
theorem lkth_mem {l : Items} {k : Nat} (hk : k < T.szL l) : ∃ n, (lkth l k, n) ∈ l := by
  induction l generalizing k with
  | nil => simp [T.szL] at hk
  | cons p l ih =>
    simp only [T.szL] at hk
    simp only [lkth]
    by_cases h : k < p.2
    · rw [if_pos h]; exact ⟨p.2, List.mem_cons_self⟩
    · rw [if_neg h]
      obtain ⟨n, hn⟩ := ih (k := k - p.2) (by omega)
      exact ⟨n, List.mem_cons_of_mem _ hn⟩
theorem lkth_rank {l : Items} {k : Nat} (h : Sorted l) (hk : k < T.szL l) : lrank (lkth l k) l ≤ k ∧ k < lrank (lkth l k) l + lcnt (lkth l k) l := by
  induction l generalizing k with
  | nil => simp [T.szL] at hk
  | cons p l ih =>
    have h2 := List.pairwise_cons.1 h
    simp only [T.szL] at hk
    simp only [lkth]
    by_cases hp : k < p.2
    · rw [if_pos hp]
      simp only [lrank, lcnt, if_pos, if_neg (show ¬ p.1 < p.1 by omega)]
      rw [lrank_none fun q hq => by have := h2.1 q hq; omega]
      omega
    · rw [if_neg hp]
      obtain ⟨n, hn⟩ := lkth_mem (l := l) (k := k - p.2) (by omega)
      have hlt := h2.1 _ hn
      have ih := ih h2.2 (k := k - p.2) (by omega)
      simp only [lrank, lcnt]
      rw [if_pos hlt, if_neg (by have : p.1 < lkth l (k - p.2) := hlt; omega)]
      omega
theorem lkth_mono {l : Items} {k m : Nat} (h : Sorted l) (hk : k ≤ m) (hm : m < T.szL l) : lkth l k ≤ lkth l m := by
  induction l generalizing k m with
  | nil => simp [T.szL] at hm
  | cons p l ih =>
    have h2 := List.pairwise_cons.1 h
    simp only [T.szL] at hm
    simp only [lkth]
    by_cases h3 : m < p.2
    · rw [if_pos h3, if_pos (by omega)]; exact Int.le_refl _
    · rw [if_neg h3]
      by_cases h4 : k < p.2
      · rw [if_pos h4]
        obtain ⟨n, hn⟩ := lkth_mem (l := l) (k := m - p.2) (by omega)
        have := h2.1 _ hn
        exact Int.le_of_lt this
      · rw [if_neg h4]
        exact ih h2.2 (by omega) (by omega)

theorem lcnt_lput {x y : Int} {n : Nat} {l : Items} (h : Sorted l) : lcnt y (lput x n l) = if y = x then n else lcnt y l := by
  induction l with
  | nil =>
    simp only [lput]
    split
    · rename_i h0; subst h0; simp [lcnt]
    · by_cases hy : y = x
      · subst hy; simp [lcnt]
      · rw [if_neg hy]; simp only [lcnt]; rw [if_neg (fun e => hy e.symm)]
  | cons p l ih =>
    have h2 := List.pairwise_cons.1 h
    have ih := ih h2.2
    simp only [lput]
    by_cases h1 : p.1 < x
    · rw [if_pos h1]
      simp only [lcnt, ih]
      by_cases hy : y = x
      · rw [if_pos hy, if_neg (by omega), if_pos hy]
      · rw [if_neg hy, if_neg hy]
    · rw [if_neg h1]
      by_cases h3 : p.1 = x
      · rw [if_pos h3]
        by_cases hy : y = x
        · rw [if_pos hy]
          split
          · rename_i h0
            rw [h0]
            exact lcnt_none fun q hq => by have := h2.1 q hq; omega
          · simp only [lcnt]; rw [if_pos hy.symm]
        · rw [if_neg hy]
          by_cases hn : n = 0
          · rw [if_pos hn, lcnt, if_neg (by omega)]
          · rw [if_neg hn, lcnt, lcnt, if_neg (fun e => hy e.symm), if_neg (by omega)]
      · rw [if_neg h3]
        have hx : lcnt x (p :: l) = 0 := lcnt_none fun q hq => by
          rcases List.mem_cons.1 hq with rfl | hq
          · exact h3
          · have := h2.1 q hq; omega
        by_cases hy : y = x
        · rw [if_pos hy]
          split
          · rename_i h0; rw [h0, hy]; exact hx
          · simp only [lcnt]; rw [if_pos hy.symm]
        · rw [if_neg hy]
          split
          · rfl
          · rw [lcnt, if_neg (fun e => hy e.symm)]
theorem lrank_lput {x y : Int} {n : Nat} {l : Items} (h : Sorted l) : lrank y (lput x n l) + (if x < y then lcnt x l else 0) = lrank y l + if x < y then n else 0 := by
  induction l with
  | nil =>
    simp only [lput]
    split
    · rename_i h0; subst h0; simp [lrank, lcnt]
    · simp [lrank, lcnt]
  | cons p l ih =>
    have h2 := List.pairwise_cons.1 h
    have ih := ih h2.2
    simp only [lput]
    by_cases h1 : p.1 < x
    · rw [if_pos h1]
      simp only [lrank, lcnt, if_neg (show ¬ p.1 = x by omega)]
      omega
    · rw [if_neg h1]
      by_cases h3 : p.1 = x
      · rw [if_pos h3]
        subst h3
        have hx : lcnt p.1 (p :: l) = p.2 := by simp [lcnt]
        rw [hx]
        split
        · rename_i h0; subst h0; simp only [lrank, ite_self]; omega
        · simp only [lrank]; omega
      · rw [if_neg h3]
        have hx : lcnt x (p :: l) = 0 := lcnt_none fun q hq => by
          rcases List.mem_cons.1 hq with rfl | hq
          · exact h3
          · have := h2.1 q hq; omega
        rw [hx]
        split
        · rename_i h0; subst h0; simp
        · simp only [lrank]; split <;> omega
/-- A sorted list of positive counts is known by its counts. -/
theorem items_ext {a b : Items} (ha : Sorted a) (hb : Sorted b) (pa : ∀ p ∈ a, 1 ≤ p.2) (pb : ∀ p ∈ b, 1 ≤ p.2) (h : ∀ x, lcnt x a = lcnt x b) : a = b := by
  induction a generalizing b with
  | nil =>
    cases b with
    | nil => rfl
    | cons q b =>
      have := h q.1
      simp only [lcnt, if_true] at this
      have := pb q List.mem_cons_self
      omega
  | cons p a ih =>
    cases b with
    | nil =>
      have := h p.1
      simp only [lcnt, if_true] at this
      have := pa p List.mem_cons_self
      omega
    | cons q b =>
      have ha2 := List.pairwise_cons.1 ha
      have hb2 := List.pairwise_cons.1 hb
      have hp := pa p List.mem_cons_self
      have hq := pb q List.mem_cons_self
      have e1 : p.1 = q.1 := by
        have h1 := h p.1
        have h2 := h q.1
        simp only [lcnt, if_true] at h1 h2
        by_cases hlt : p.1 < q.1
        · rw [if_neg (by omega), lcnt_none (l := b) fun r hr => by have := hb2.1 r hr; omega] at h1
          omega
        · by_cases hgt : q.1 < p.1
          · rw [if_neg (by omega), lcnt_none (l := a) fun r hr => by have := ha2.1 r hr; omega] at h2
            omega
          · omega
      have e2 : p.2 = q.2 := by
        have h1 := h p.1
        simp only [lcnt, if_true] at h1
        rw [if_pos e1.symm] at h1
        exact h1
      obtain ⟨px, pn⟩ := p
      obtain ⟨qx, qn⟩ := q
      simp only at e1 e2
      subst e1 e2
      rw [ih ha2.2 hb2.2 (fun r hr => pa r (List.mem_cons_of_mem _ hr)) (fun r hr => pb r (List.mem_cons_of_mem _ hr)) (fun x => ?_)]
      have h1 := h x
      simp only [lcnt] at h1
      by_cases hx : px = x
      · subst hx
        rw [lcnt_none (l := a) fun r hr => by have := ha2.1 r hr; omega, lcnt_none (l := b) fun r hr => by have := hb2.1 r hr; omega]
      · rw [if_neg hx, if_neg hx] at h1
        exact h1
end Go.Proofs.Ytbafacdknaopjaa
