/-
  Balance as a whole, and what it keeps.
-/
import Derived.Test.YtbafacdknaopjaaA4
namespace Go.Proofs.Ytbafacdknaopjaa
open Go.RowKit
set_option linter.unusedSimpArgs false

namespace T
/-- The numbers of a tree in order, with their counts. -/
def items : T → List (Int × Nat)
  | leaf => []
  | node _ l x t r => l.items ++ (x, t) :: r.items
def szL : List (Int × Nat) → Nat
  | [] => 0
  | p :: l => p.2 + szL l
theorem szL_append (a b : List (Int × Nat)) : szL (a ++ b) = szL a + szL b := by
  induction a with
  | nil => simp [szL]
  | cons p a ih => simp only [List.cons_append, szL, ih]; omega
theorem sz_items (t : T) : t.sz = szL t.items := by
  induction t with
  | leaf => rfl
  | node g l x t r ihl ihr => simp only [sz, items, szL_append, szL, ihl, ihr]; omega
theorem ds_items (t : T) : t.ds = t.items.length := by
  induction t with
  | leaf => rfl
  | node g l x t r ihl ihr => simp only [ds, items, List.length_append, List.length_cons, ihl, ihr]; omega
theorem sz_of {a b : T} (h : a.items = b.items) : a.sz = b.sz := by rw [sz_items, sz_items, h]
theorem ds_of {a b : T} (h : a.items = b.items) : a.ds = b.ds := by rw [ds_items, ds_items, h]
theorem rot0_items (t : T) : t.rot0.items = t.items := by
  unfold rot0; split <;> simp [items]
theorem rot1_items (t : T) : t.rot1.items = t.items := by
  unfold rot1; split <;> simp [items]
theorem rot0_blocks (t : T) : t.rot0.blocks.Perm t.blocks := by
  unfold rot0
  split
  · rename_i g gk a y u b x t r
    simp only [blocks, List.cons_append, List.append_assoc]
    exact ((List.perm_middle (a := g) (l₁ := a.blocks) (l₂ := b.blocks ++ r.blocks)).cons gk).trans (List.Perm.swap g gk _)
  · exact .refl _
theorem rot1_blocks (t : T) : t.rot1.blocks.Perm t.blocks := by
  unfold rot1
  split
  · rename_i g l x t gk a y u b
    simp only [blocks, List.cons_append, List.append_assoc]
    exact (List.Perm.swap g gk _).trans ((List.perm_middle (a := gk) (l₁ := l.blocks) (l₂ := a.blocks ++ b.blocks)).symm.cons g)
  · exact .refl _
theorem bal_items (t : T) : t.bal.items = t.items := by
  cases t with
  | leaf => rfl
  | node g l x t r =>
    simp only [bal]
    split
    · rw [rot0_items]; split <;> simp [items, rot1_items]
    · split
      · rw [rot1_items]; split <;> simp [items, rot0_items]
      · rfl
theorem bal_blocks (t : T) : t.bal.blocks.Perm t.blocks := by
  cases t with
  | leaf => exact .refl _
  | node g l x t r =>
    simp only [bal]
    split
    · refine (rot0_blocks _).trans ?_
      split
      · exact ((rot1_blocks l).append_right _).cons g
      · exact .refl _
    · split
      · refine (rot1_blocks _).trans ?_
        split
        · exact ((rot0_blocks r).append_left _).cons g
        · exact .refl _
      · exact .refl _
end T

theorem balance_any (g t : Nat) (l r : T) (x s d h : Int) (w : World) (hg : w.heap[g]? = some (.cells (T.cells l x t r s d h) 194 (0, 0))) (hl : l.At w) (hr : r.At w)
    (hnd : (T.node g l x t r).blocks.Nodup) (hs : (T.node g l x t r).sz ≤ 2 ^ 60) (hd : (T.node g l x t r).ds ≤ 2 ^ 60) :
    Calls Try.prog 166 #[.pointer (some ⟨g, 0, none⟩)] w fun e w' => e = .returned (T.bal (.node g l x t r)).ptr ∧ (T.bal (.node g l x t r)).At w' ∧ Only (T.node g l x t r).blocks w w' := by
  have hn := List.nodup_cons.1 hnd
  have hgl : g ∉ l.blocks := fun hm => hn.1 (List.mem_append_left _ hm)
  have hgr : g ∉ r.blocks := fun hm => hn.1 (List.mem_append_right _ hm)
  simp only [T.sz] at hs
  simp only [T.ds] at hd
  simp only [T.bal]
  by_cases h1 : r.ht + 1 < l.ht
  · rw [if_pos h1]
    cases l with
    | leaf => simp [T.ht] at h1
    | node gk a y u b =>
      by_cases h2 : a.ht < b.ht
      · rw [if_pos (show (T.node gk a y u b).kid0.ht < (T.node gk a y u b).kid1.ht from h2)]
        cases b with
        | leaf => simp [T.ht] at h2
        | node gm p z v q => exact bal_l1 g gk gm t u v a p q r x y z s d h w hg hl hr hnd (by simp only [T.sz] at hs; omega) (by simp only [T.ds] at hd; omega) h1 h2
      · rw [if_neg (show ¬ (T.node gk a y u b).kid0.ht < (T.node gk a y u b).kid1.ht from h2)]
        exact bal_l0 g gk t u a b r x y s d h w hg hl hr hnd (by simp only [T.sz] at hs; omega) (by simp only [T.ds] at hd; omega) h1 (by omega)
  · rw [if_neg h1]
    by_cases h2 : l.ht + 1 < r.ht
    · rw [if_pos h2]
      cases r with
      | leaf => simp [T.ht] at h2
      | node gk a y u b =>
        by_cases h3 : b.ht < a.ht
        · rw [if_pos (show (T.node gk a y u b).kid1.ht < (T.node gk a y u b).kid0.ht from h3)]
          cases a with
          | leaf => simp [T.ht] at h3
          | node gm p z v q => exact bal_r1 g gk gm t u v b p q l x y z s d h w hg hr hl hnd (by simp only [T.sz] at hs; omega) (by simp only [T.ds] at hd; omega) h2 h3
        · rw [if_neg (show ¬ (T.node gk a y u b).kid1.ht < (T.node gk a y u b).kid0.ht from h3)]
          exact bal_r0 g gk t u a b l x y s d h w hg hr hl hnd (by simp only [T.sz] at hs; omega) (by simp only [T.ds] at hd; omega) h2 (by omega)
    · rw [if_neg h2]
      exact (bal_no g t l r x s d h w hg hl hr hgl hgr hs hd (by omega) (by omega)).mono fun e w' ⟨h1, h2, h3⟩ => ⟨h1, h2, h3.mono fun k hk => by rw [List.mem_singleton.1 hk]; exact List.mem_cons_self⟩
end Go.Proofs.Ytbafacdknaopjaa
