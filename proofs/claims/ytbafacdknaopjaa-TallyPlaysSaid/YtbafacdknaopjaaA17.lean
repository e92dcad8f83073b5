/-
  The iterator over a bag.
-/
import Derived.Test.YtbafacdknaopjaaA16
import Derived.RangeFuncBox
import Derived.RangeFuncBound
import Derived.OwnWalkIn
import Derived.TacticsInMore
import Derived.Shelf.Abstract
import Derived.RangeFuncCalls
import Derived.Shelf.RegionOpen
namespace Go.Proofs.Ytbafacdknaopjaa
open Go.RowKit Go.Shelf
attribute [local go_sem] Oper.semAt_some
set_option linter.unusedSimpArgs false

theorem Only.grown {A B : World} (h : Only [] A B) : A.grownBy B none := ⟨h.os, h.tape, h.output, h.size, fun k hk _ => h.block k hk (by simp)⟩
theorem cell_lt {w : World} {a : Addr} {v : Value} (h : w.cell? a = some v) : a.block < w.heap.size := by
  unfold World.cell? at h
  by_cases hb : a.block < w.heap.size
  · exact hb
  · rw [Array.getElem?_eq_none (by omega)] at h
    simp at h
theorem room_wide' (k : Nat) : Fence.wide.room k := fun d h => by cases h
theorem RoundIn.anyDepth' {m m' : Nat} {P : Program} {l : Nat} {f : FuncId} {tmps : Array Value} {assign body : Code} {w : World} {R : Ending → World → Prop}
    (h : RoundIn Fence.wide m P l f tmps assign body w R) : RoundIn Fence.wide m' P l f tmps assign body w R := ⟨h.1, fun c cs _ => h.2 c cs (room_wide' _)⟩
theorem YieldAt.anyDepth' {m : Nat} (m' : Nat) {P : Program} {l : Nat} {args : Array Value} {W : World} {R : Ending → World → Prop} (h : YieldAt Fence.wide m P l args W R) : YieldAt Fence.wide m' P l args W R := by
  obtain ⟨fn, tmps, assign, body, hy, hR⟩ := h
  exact ⟨fn, tmps, assign, body, hy, RoundIn.anyDepth' hR⟩

/-- How a round ends: with a bool. -/
def Ends (R : Bool → World → Prop) (e : Ending) (w : World) : Prop := ∃ b, e = .returned (.bool b) ∧ R b w

set_option maxRecDepth 100000 in
set_option maxHeartbeats 2000000 in
theorem visit_in (n l Y g u : Nat) (lt rt : T) (x : Int) (W : World) (hA : (T.node g lt x u rt).At W) (hb : W.cell? ⟨Y, 0, none⟩ = some (.func (.yield l) #[] #[])) (R : Bool → World → Prop)
    (hy : ∀ m, YieldAt Fence.wide m Try.prog l #[.int .i64 x, .int .i64 u] W.drew (Ends R)) :
    CallsIn Fence.wide n Try.prog 168 #[.pointer (some ⟨g, 0, none⟩), .pointer (some ⟨Y, 0, none⟩)] W (Ends R) := by
  obtain ⟨h1, _, _⟩ := hA
  have c1 := cell_of_heap (i := 2) h1 rfl
  have c2 := cell_of_heap (i := 3) h1 rfl
  replace c1 : W.cell? ⟨g, 2, none⟩ = some (.int .i64 x) := c1
  replace c2 : W.cell? ⟨g, 3, none⟩ = some (.int .i64 u) := c2
  obtain ⟨fn, tmps, assign, body, hyr, hR⟩ := hy (n - 1)
  have HR := Lib.hid hR
  have hmix : Try.prog.follows .mixedOrders = true := by kernel_rfl
  clear h1 hR hy
  refine callsIn_of_wp Try.func168 rfl trivial ?_ rfl
  simp only [Try.ntmps168, List.size_toArray, List.length_cons, List.length_nil, Nat.reduceAdd, Nat.reduceSub, Array.replicate_succ, Array.replicate_zero, List.push_toArray, List.append_toArray, List.nil_append, List.cons_append]
  gi_wp2
  gi_region_with_o ((refine ⟨by simp [Fence.wide], HR.out.mono ?_⟩); rintro e W3 ⟨b, rfl, hr⟩)
  all_goals
    gi_wp2
    go_ret
    exact ⟨b, rfl, hr⟩

theorem Walked.mono {J Jx : Items → World → Prop} {pre its : Items} {W : World} {e : Ending} {W' : World} (h : Walked J Jx pre its W e W') : (∃ v, e = .returned v) ∧ ((J (pre ++ its) W') ∨ (∃ q, q <+: its ∧ Jx (pre ++ q) W')) := by
  rcases h with ⟨rfl, hj, _⟩ | ⟨rfl, q, hq, hx⟩
  · exact ⟨⟨_, rfl⟩, .inl hj⟩
  · exact ⟨⟨_, rfl⟩, .inr ⟨q, hq, hx⟩⟩

/-- What tree returns of a pointer, from here on. -/
def TreeOf (W : World) (a : Option Addr) (t : T) : Prop := t.At W ∧ ∀ W1, Only [] W W1 → Calls Try.prog 162 #[.pointer a] W1 fun e w' => e = .returned t.ptr ∧ W1 = w'
theorem TreeOf.only {W W1 : World} {a : Option Addr} {t : T} (h : TreeOf W a t) (ho : Only [] W W1) : TreeOf W1 a t := ⟨h.1.only ho (fun _ _ hm => by simp at hm), fun W2 h2 => h.2 W2 (ho.trans h2)⟩
theorem Bag.treeOf {W : World} {B : Nat} {t : T} (h : Bag W B t) : TreeOf W (some ⟨B, 0, none⟩) t := ⟨h.tree, fun W1 ho => tree_any B t W1 (h.only ho (fun _ _ hm => by simp at hm)).head⟩

set_option maxRecDepth 100000 in
set_option maxHeartbeats 2000000 in
/-- The iterator over a bag: all items in order, or a part of them. -/
theorem all1_in (n l Bb : Nat) (a : Option Addr) (t : T) (J Jx : Items → World → Prop) (W : World) (hB : TreeOf W a t) (hBb : W.cell? ⟨Bb, 0, none⟩ = some (.pointer a))
    (hJ : AbidesFrom W.heap.size J)
    (hY : ∀ (pre : Items) (x : Int × Nat) (post : Items) (W1 : World), t.items = pre ++ x :: post → J pre W1 → YieldAt Fence.wide (n - 1) Try.prog l #[.int .i64 x.1, .int .i64 x.2] W1 fun e W' =>
      (e = .returned (.bool true) ∧ J (pre ++ [x]) W' ∧ KeepT W1 W') ∨ (e = .returned (.bool false) ∧ Jx (pre ++ [x]) W'))
    (h0 : J [] W) :
    CallsIn Fence.wide n Try.prog 167 #[.func (.yield l) #[] #[], .pointer (some ⟨Bb, 0, none⟩)] W fun e W' => (∃ v, e = .returned v) ∧
      ((∃ ys, ys = t.items ∧ J ys W') ∨ (∃ pre, pre <+: t.items ∧ Jx pre W')) := by
  obtain ⟨W0, hW0⟩ : ∃ W0, W.alloc (.cells #[.func (.yield l) #[] #[]] 204) = W0 := ⟨_, rfl⟩
  have hO0 : Only [] W W0 := hW0 ▸ (Only.refl [] W).alloc _
  have hB0 := hB.only hO0
  have hbb : Bb < W.heap.size := cell_lt hBb
  have hYb : W0.heap[W.heap.size]? = some (.cells #[.func (.yield l) #[] #[]] 204 (0, 0)) := hW0 ▸ heap_alloc_new W _
  have CT := Lib.hid (hB0.2 W0 (Only.refl _ _))
  have CC := Lib.hid (copy_any t W0 hB0.1)
  have hJo : ∀ (pre : Items) (A C : World), J pre A → Only [] A C → J pre C := fun pre A C hj ho => hJ pre A C none hj ho.grown (fun r e => by cases e)
  have CW := Lib.hid (fun (t' : T) (W1 : World) (hi : t'.items = t.items) (hA : t'.At W1) (hO : Only [] W0 W1) =>
    walk_any 168 (fun _ _ => by kernel_rfl) #[.pointer (some ⟨W.heap.size, 0, none⟩)] t.items
      (fun pre W => J pre W ∧ W.heap[W0.heap.size - 1]? = some (.cells #[.func (.yield l) #[] #[]] 204 (0, 0))) Jx
      (fun g lt x u rt pre post W2 hL hJ2 hA2 => by
        obtain ⟨hj, hb⟩ := hJ2
        have hs : W0.heap.size - 1 = W.heap.size := by rw [← hW0, World.size_alloc]; omega
        rw [hs] at hb ⊢
        refine (callsIn_wide (n := 0)).1 ((visit_in 0 l W.heap.size g u lt rt x W2 hA2 (cell_of_heap hb rfl) (fun b W' => (b = true ∧ J (pre ++ [(x, u)]) W' ∧ KeepT W2 W') ∨ (b = false ∧ Jx (pre ++ [(x, u)]) W'))
          (fun m => YieldAt.anyDepth' m (YieldAt.mono (hY pre (x, u) post W2.drew hL (hJo _ _ _ hj ((Only.refl [] W2).drewN 1))) ?_))).mono ?_)
        · rintro e W' (⟨rfl, hj', hk⟩ | ⟨rfl, hx⟩)
          · exact ⟨true, rfl, .inl ⟨rfl, hj', hk⟩⟩
          · exact ⟨false, rfl, .inr ⟨rfl, hx⟩⟩
        · rintro e W' ⟨b, rfl, ⟨rfl, hj', hk⟩ | ⟨rfl, hx⟩⟩
          · exact .inl ⟨rfl, ⟨hj', hk _ _ _ (.inr rfl) hb⟩, hk⟩
          · exact .inr ⟨rfl, hx⟩)
      t' [] [] W1 (by simp [hi]) hA ⟨hJo _ _ _ h0 (hO0.trans hO), by
        have hs : W0.heap.size - 1 = W.heap.size := by rw [← hW0, World.size_alloc]; omega
        rw [hs]
        exact (hO.block _ (heap_lt hYb) (by simp)).trans hYb⟩)
  have HW := Lib.hid hW0
  clear hY hB0 hB hO0 hYb hW0 hJ h0 hJo
  refine callsIn_of_wp Try.func167 rfl trivial ?_ rfl
  simp only [Try.ntmps167, List.size_toArray, List.length_cons, List.length_nil, Nat.reduceAdd, Nat.reduceSub, Array.replicate_succ, Array.replicate_zero, List.push_toArray, List.append_toArray, List.nil_append, List.cons_append]
  have hdp : ∀ m : Nat, (Fence.wide.depth.isSome = true → 1 ≤ m) := fun m h => by cases h
  gi_wp2_with fail
  rw [HW.out]
  refine ⟨trivial, hdp _, callsIn_wide.2 (CT.out.mono ?_)⟩
  rintro e w' ⟨rfl, rfl⟩
  gi_wp2_with fail
  refine ⟨trivial, hdp _, callsIn_wide.2 (CC.out.mono ?_)⟩
  rintro e W1 ⟨t', rfl, hA, hL, _, _, hO⟩
  have CW' := Lib.hid (CW.out t' W1 hL.all.1 hA hO)
  have HI := Lib.hid hL.all.1
  clear hA hL hO CW CT CC
  gi_wp2_with fail
  refine ⟨trivial, hdp _, callsIn_wide.2 (CW'.out.mono ?_)⟩
  rintro e W2 hw
  obtain ⟨⟨v, rfl⟩, hw2⟩ := hw.mono
  clear hw
  gi_wp2_with fail
  go_end0
  refine ⟨⟨_, rfl⟩, ?_⟩
  rcases hw2 with hj | ⟨q, hq, hx⟩
  · exact .inl ⟨_, rfl, by simpa [HI.out] using hj.1⟩
  · exact .inr ⟨q, by rw [← HI.out]; exact hq, by simpa using hx⟩

set_option maxRecDepth 100000 in
theorem All_any (a : Option Addr) (w : World) : Calls Try.prog 142 #[.pointer a] w fun e w' => e = .returned (.func (.func 167) #[] #[.pointer (some ⟨w.heap.size, 0, none⟩)]) ∧ w.alloc (.cells #[.pointer a] 63) = w' := by
  go_enter Try.func142, Try.ntmps142
  go_wp2
  go_ret
  exact ⟨rfl, rfl⟩
end Go.Proofs.Ytbafacdknaopjaa
