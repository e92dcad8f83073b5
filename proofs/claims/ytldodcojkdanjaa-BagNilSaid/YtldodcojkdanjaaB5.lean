/-
  The reads of a bag by its list; the example.
-/
import Derived.Test.YtldodcojkdanjaaA15
import Derived.Test.YtldodcojkdanjaaB4
namespace Go.Proofs.Ytldodcojkdanjaa
open Go.RowKit
set_option linter.unusedSimpArgs false

def kV (L : Items) (k : Int) : Int := if 0 ≤ k ∧ k < T.szL L then lkth L k.toNat else 0
def kB (L : Items) (k : Int) : Bool := decide (0 ≤ k ∧ k < T.szL L)
theorem kthV_items (t : T) (k : Int) : kthV t k = kV t.items k := by
  unfold kthV kV
  rw [← T.sz_items]
  split
  · rename_i h; exact kth_items t _ (by omega)
  · rfl
theorem kthB_items (t : T) (k : Int) : kthB t k = kB t.items k := by unfold kthB kB; rw [T.sz_items]

section
variable {W : World} {B : Nat} {t : T} {L : Items} (h : Bag W B t) (e : t.items = L)
include h e
theorem Rank_c (x : Int) : Calls Try.prog 13 #[.pointer (some ⟨B, 0, none⟩), .int .i64 x] W fun e w' => e = .returned (.int .i64 (lrank x L)) ∧ ∃ n, w' = W.drewN n := by
  have := Rank_any B t x W h.head h.tree (Nat.le_trans h.sz (by omega))
  rw [rank_items x t h.so, e] at this
  exact this
theorem Count_c (x : Int) : Calls Try.prog 14 #[.pointer (some ⟨B, 0, none⟩), .int .i64 x] W fun e w' => e = .returned (.int .i64 (lcnt x L)) ∧ W = w' := by
  have := Count_any B t x W h.head h.tree
  rw [cnt_items x t h.so, e] at this
  exact this
theorem Size_c : Calls Try.prog 20 #[.pointer (some ⟨B, 0, none⟩)] W fun e w' => e = .returned (.int .i64 (T.szL L)) ∧ ∃ n, w' = W.drewN n := by
  have := Size_any B t W h.head h.tree
  rw [T.sz_items, e] at this
  exact this
theorem Distinct_c : Calls Try.prog 25 #[.pointer (some ⟨B, 0, none⟩)] W fun e w' => e = .returned (.int .i64 L.length) ∧ ∃ n, w' = W.drewN n := by
  have := Distinct_any B t W h.head h.tree
  rw [T.ds_items, e] at this
  exact this
theorem Kth_c (k : Int) : Calls Try.prog 15 #[.pointer (some ⟨B, 0, none⟩), .int .i64 k] W fun e w' => e = .returned (.tuple #[.int .i64 (kV L k), .bool (kB L k)]) ∧ ∃ n, w' = W.drewN n := by
  have := Kth_any B t k W h.head h.tree (Nat.le_trans h.sz (by omega))
  rw [kthV_items, kthB_items, e] at this
  exact this
theorem Sum_c (hr : Ranged L) (h0 : -9223372036854775808 ≤ itSum L) (h1 : itSum L ≤ 9223372036854775807) : Calls Try.prog 18 #[.pointer (some ⟨B, 0, none⟩)] W fun e w' => e = .returned (.tuple #[.int .i64 (itSum L), .int .i64 0]) ∧ Only [] W w' := by
  subst e
  exact Sum_any B t W h hr h0 h1
theorem Squares_c (hr : Ranged L) (h1 : itSq L ≤ 9223372036854775807) : Calls Try.prog 19 #[.pointer (some ⟨B, 0, none⟩)] W fun e w' => e = .returned (.tuple #[.int .i64 (itSq L), .int .i64 0]) ∧ Only [] W w' := by
  subst e
  exact Squares_any B t W h hr h1
end
theorem of_drewN {w W : World} (h : Only [] w W) (n : Nat) : Only [] w (W.drewN n) := h.drewN n

set_option maxRecDepth 100000 in
set_option maxHeartbeats 2000000 in
theorem works_any (w : World) : Calls Try.prog 10 #[] w fun e w' => e = .returned (.bool true) ∧ Only [] w w' := by
  go_enter Try.func10, Try.ntmps10
  go_wp2_with fail
  refine (New_any w).mono ?_
  rintro e w1 ⟨rfl, hb1, hO1⟩
  have H1 := Lib.hid (show OwnBag w w1 w.heap.size .leaf from ⟨hb1, fun k hk => by simp [T.blocks] at hk; omega, hO1⟩)
  clear hb1 hO1
  go_wp2_with fail
  refine (Add_ok w.heap.size .leaf 5 2 w1 H1.out.bag (by simp [T.sz])).mono ?_
  rintro e w2 ⟨rfl, t2, hbec⟩
  have H2 := Lib.hid (H1.out.step hbec)
  have I2 := Lib.hid (show t2.items = [(5, 2)] from hbec.items)
  clear hbec
  go_wp2_with fail
  refine (Add_ok w.heap.size t2 (-3) 1 w2 H2.out.bag (by rw [T.sz_items, I2.out]; simp [T.szL])).mono ?_
  rintro e w3 ⟨rfl, t3, hbec⟩
  have H3 := Lib.hid (H2.out.step hbec)
  have I3 := Lib.hid (show t3.items = [(-3, 1), (5, 2)] from by rw [hbec.items, I2.out]; rfl)
  clear hbec H2 I2
  go_wp2_with fail
  refine (Kth_c H3.out.bag I3.out 2).mono ?_
  rintro e w' ⟨rfl, n1, rfl⟩
  rw [show kV [(-3, 1), (5, 2)] 2 = 5 from by decide, show kB [(-3, 1), (5, 2)] 2 = true from by decide]
  have H4 := Lib.hid (H3.out.keepN n1)
  clear H3
  go_wp2_with fail
  refine (Sum_c H4.out.bag I3.out (by unfold Ranged; decide) (by decide) (by decide)).mono ?_
  rintro e w5 ⟨rfl, hO5⟩
  have H5 := Lib.hid (H4.out.keep hO5)
  clear H4 hO5
  go_wp2_with fail
  refine (Squares_c H5.out.bag I3.out (by unfold Ranged; decide) (by decide)).mono ?_
  rintro e w6 ⟨rfl, hO6⟩
  have H6 := Lib.hid (H5.out.keep hO6)
  rw [show itSum [(-3, 1), (5, 2)] = 7 from by decide, show itSq [(-3, 1), (5, 2)] = 59 from by decide]
  clear H5 hO6
  go_wp2_with fail
  refine (Rank_c H6.out.bag I3.out 6).mono ?_
  rintro e w' ⟨rfl, n2, rfl⟩
  rw [show lrank 6 [(-3, 1), (5, 2)] = 3 from by decide]
  have H7 := Lib.hid (H6.out.keepN n2)
  clear H6
  go_wp2_with fail
  refine (Remove_none w.heap.size t3 5 3 _ H7.out.bag (by omega) (by rw [I3.out]; decide)).mono ?_
  rintro e w8 ⟨rfl, hO8⟩
  have H8 := Lib.hid (H7.out.keep hO8)
  clear H7 hO8
  go_wp2_with fail
  refine (Size_c H8.out.bag I3.out).mono ?_
  rintro e w' ⟨rfl, n3, rfl⟩
  rw [show T.szL [(-3, 1), (5, 2)] = 3 from by decide]
  have H9 := Lib.hid (H8.out.keepN n3)
  go_wp2_with fail
  refine (Distinct_c H9.out.bag I3.out).mono ?_
  rintro e w' ⟨rfl, n4, rfl⟩
  go_wp2_with fail
  go_ret
  exact ⟨rfl, H8.out.only.drewN _⟩
end Go.Proofs.Ytldodcojkdanjaa
