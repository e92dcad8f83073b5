/-
  What update makes of the numbers of a tree, as a list (plain).
-/
import Derived.Test.YtbafacdknaopjaaA8
namespace Go.Proofs.Ytbafacdknaopjaa

abbrev Items := List (Int × Nat)
def Sorted (l : Items) : Prop := l.Pairwise fun a b => a.1 < b.1
def lcnt (x : Int) : Items → Nat
  | [] => 0
  | p :: l => if p.1 = x then p.2 else lcnt x l
/-- The list with x so many times (0: not at all). -/
def lput (x : Int) (n : Nat) : Items → Items
  | [] => if n = 0 then [] else [(x, n)]
  | p :: l => if p.1 < x then p :: lput x n l else if p.1 = x then (if n = 0 then l else (x, n) :: l) else (if n = 0 then p :: l else (x, n) :: p :: l)

theorem lcnt_none {x : Int} {l : Items} (h : ∀ p ∈ l, p.1 ≠ x) : lcnt x l = 0 := by
  induction l with
  | nil => rfl
  | cons p l ih => simp only [lcnt, if_neg (h p List.mem_cons_self)]; exact ih fun q hq => h q (List.mem_cons_of_mem _ hq)
theorem lcnt_left {x : Int} {a b : Items} (h : ∀ p ∈ b, p.1 ≠ x) : lcnt x (a ++ b) = lcnt x a := by
  induction a with
  | nil => exact lcnt_none h
  | cons p a ih => simp only [List.cons_append, lcnt, ih]
theorem lcnt_right {x : Int} {a b : Items} (h : ∀ p ∈ a, p.1 ≠ x) : lcnt x (a ++ b) = lcnt x b := by
  induction a with
  | nil => rfl
  | cons p a ih => simp only [List.cons_append, lcnt, if_neg (h p List.mem_cons_self)]; exact ih fun q hq => h q (List.mem_cons_of_mem _ hq)
theorem lput_left {x : Int} {n : Nat} {a b : Items} (h : ∀ p ∈ b, x < p.1) : lput x n (a ++ b) = lput x n a ++ b := by
  induction a with
  | nil =>
    cases b with
    | nil => simp [lput]
    | cons p b =>
      have := h p List.mem_cons_self
      simp only [List.nil_append, lput, if_neg (show ¬ p.1 < x by omega), if_neg (show ¬ p.1 = x by omega)]
      split <;> rfl
  | cons p a ih =>
    simp only [List.cons_append, lput, ih]
    split
    · rfl
    · split <;> split <;> rfl
theorem lput_right {x : Int} {n : Nat} {a b : Items} (h : ∀ p ∈ a, p.1 < x) : lput x n (a ++ b) = a ++ lput x n b := by
  induction a with
  | nil => rfl
  | cons p a ih => simp only [List.cons_append, lput, if_pos (h p List.mem_cons_self)]; rw [ih fun q hq => h q (List.mem_cons_of_mem _ hq)]

theorem sorted_split {a b : Items} {p : Int × Nat} (h : Sorted (a ++ p :: b)) : Sorted a ∧ Sorted b ∧ (∀ q ∈ a, q.1 < p.1) ∧ (∀ q ∈ b, p.1 < q.1) := by
  unfold Sorted at h ⊢
  rw [List.pairwise_append, List.pairwise_cons] at h
  obtain ⟨h1, ⟨h2, h3⟩, h4⟩ := h
  exact ⟨h1, h3, fun q hq => h4 q hq p List.mem_cons_self, h2⟩

theorem cnt_items (x : Int) (t : T) (h : Sorted t.items) : t.cnt x = lcnt x t.items := by
  induction t with
  | leaf => rfl
  | node g l y u r ihl ihr =>
    obtain ⟨h1, h2, h3, h4⟩ := sorted_split h
    simp only [T.cnt, T.items]
    split
    · rename_i hlt
      rw [ihl h1, lcnt_left]
      intro p hp
      rcases List.mem_cons.1 hp with rfl | hp
      · show y ≠ x; omega
      · have : y < p.1 := h4 p hp
        omega
    · split
      · rename_i hlt
        rw [ihr h2, lcnt_right (fun p hp => by have : p.1 < y := h3 p hp; omega)]
        rw [lcnt, if_neg (show ¬ y = x by omega)]
      · rw [lcnt_right (fun p hp => by have : p.1 < y := h3 p hp; omega), lcnt, if_pos (show y = x by omega)]

theorem upd_items (N : Nat) (x : Int) (f : Nat → Nat) (t : T) (h : Sorted t.items) : (T.upd N x f t).items = lput x (f (lcnt x t.items)) t.items := by
  rw [← cnt_items x t h]
  induction t with
  | leaf =>
    simp only [T.upd, T.cnt, T.items, lput]
    split <;> simp [T.items]
  | node g l y u r ihl ihr =>
    obtain ⟨h1, h2, h3, h4⟩ := sorted_split h
    simp only [T.upd, T.cnt]
    split
    · rename_i hlt
      rw [T.bal_items]
      simp only [T.items]
      rw [ihl h1, lput_left]
      intro p hp
      rcases List.mem_cons.1 hp with rfl | hp
      · exact hlt
      · have : y < p.1 := h4 p hp
        omega
    · split
      · rename_i hlt
        rw [T.bal_items]
        simp only [T.items]
        rw [ihr h2, lput_right (fun p hp => by have : p.1 < y := h3 p hp; omega), lput, if_pos (by exact hlt)]
      · obtain rfl : y = x := by omega
        simp only [T.items]
        rw [lput_right (x := y) (fun p hp => h3 p hp), lput, if_neg (show ¬ y < y by omega), if_pos (show y = y from rfl)]
        split
        · rw [T.join_items]
        · rw [T.bal_items]; rfl

theorem lput_mem {x : Int} {n : Nat} {l : Items} {p : Int × Nat} (h : p ∈ lput x n l) : (p = (x, n) ∧ n ≠ 0) ∨ p ∈ l := by
  induction l with
  | nil =>
    simp only [lput] at h
    split at h
    · simp at h
    · exact .inl ⟨by simpa using h, by assumption⟩
  | cons q l ih =>
    simp only [lput] at h
    split at h
    · rcases List.mem_cons.1 h with rfl | h
      · exact .inr List.mem_cons_self
      · exact (ih h).elim .inl fun h => .inr (List.mem_cons_of_mem _ h)
    · split at h
      · split at h
        · exact .inr (List.mem_cons_of_mem _ h)
        · rcases List.mem_cons.1 h with rfl | h
          · exact .inl ⟨rfl, by assumption⟩
          · exact .inr (List.mem_cons_of_mem _ h)
      · split at h
        · exact .inr h
        · rcases List.mem_cons.1 h with rfl | h
          · exact .inl ⟨rfl, by assumption⟩
          · exact .inr h
theorem lput_sorted {x : Int} {n : Nat} {l : Items} (h : Sorted l) : Sorted (lput x n l) := by
  induction l with
  | nil =>
    simp only [lput]
    split <;> simp [Sorted]
  | cons q l ih =>
    have h2 := List.pairwise_cons.1 h
    simp only [lput]
    split
    · rename_i hlt
      refine List.pairwise_cons.2 ⟨fun p hp => ?_, ih h2.2⟩
      rcases lput_mem hp with ⟨rfl, _⟩ | hp
      · exact hlt
      · exact h2.1 p hp
    · split
      · rename_i he
        split
        · exact h2.2
        · exact List.pairwise_cons.2 ⟨fun p hp => by have := h2.1 p hp; show x < p.1; omega, h2.2⟩
      · split
        · exact h
        · refine List.pairwise_cons.2 ⟨fun p hp => ?_, h⟩
          show x < p.1
          rcases List.mem_cons.1 hp with rfl | hp
          · omega
          · have := h2.1 p hp; omega
theorem lput_sz {x : Int} {n : Nat} {l : Items} (h : Sorted l) : T.szL (lput x n l) + lcnt x l = T.szL l + n := by
  induction l with
  | nil =>
    simp only [lput, lcnt]
    split
    · simp [T.szL]; omega
    · simp [T.szL]
  | cons q l ih =>
    have h2 := List.pairwise_cons.1 h
    have ih := ih h2.2
    simp only [lput, lcnt]
    split
    · rename_i hlt
      rw [if_neg (show ¬ q.1 = x by omega)]
      simp only [T.szL]
      omega
    · split
      · rename_i he
        split
        · simp only [T.szL]; omega
        · simp only [T.szL]; omega
      · have : lcnt x l = 0 := lcnt_none fun p hp => by have := h2.1 p hp; omega
        split
        · simp only [T.szL]; omega
        · simp only [T.szL]; omega
theorem lput_pos {x : Int} {n : Nat} {l : Items} (h : ∀ p ∈ l, 1 ≤ p.2) : ∀ p ∈ lput x n l, 1 ≤ p.2 := by
  intro p hp
  rcases lput_mem hp with ⟨rfl, hn⟩ | hp
  · show 1 ≤ n; omega
  · exact h p hp
theorem len_le_sz {l : Items} (h : ∀ p ∈ l, 1 ≤ p.2) : l.length ≤ T.szL l := by
  induction l with
  | nil => simp [T.szL]
  | cons p l ih =>
    have := h p List.mem_cons_self
    have := ih fun q hq => h q (List.mem_cons_of_mem _ hq)
    simp only [List.length_cons, T.szL]
    omega
theorem lcnt_le_sz (x : Int) (l : Items) : lcnt x l ≤ T.szL l := by
  induction l with
  | nil => simp [lcnt]
  | cons p l ih => simp only [lcnt, T.szL]; split <;> omega
end Go.Proofs.Ytbafacdknaopjaa
