/-
  Bags that are nil or were not made by New; the walk of BagNil.
-/
import Derived.Test.YtldodcojkdanjaaB9
namespace Go.Proofs.Ytldodcojkdanjaa
open Go.RowKit
set_option linter.unusedSimpArgs false

/-- A pointer that is no valid bag, from here on. -/
def BadOf (W : World) (a : Option Addr) : Prop := ∀ W1, Only [] W W1 → Calls Try.prog 30 #[.pointer a] W1 fun e w' => e = .returned (.bool false) ∧ W1 = w'
theorem BadOf.only {W W1 : World} {a : Option Addr} (h : BadOf W a) (ho : Only [] W W1) : BadOf W1 a := fun W2 h2 => h W2 (ho.trans h2)

theorem eql_nil_some (a : Addr) (w : World) : (binOp .eql 24 (.pointer none) (.pointer (some a))).run Try.prog w = .ok (.bool false) w := by
  have h : ∀ d : Nat, (Op.equalIn (d + 1) 24 (.pointer none) (.pointer (some a))).run Try.prog w = .ok false w := fun d => by
    simp [Op.equalIn, run_underlying Try.underlying24]
  simp only [binOp]
  simp [Op.equal, Op.maxDepth, h 9999]

set_option maxRecDepth 100000 in
theorem bad_nil (W : World) : BadOf W none := by
  intro W1 _
  go_enter Try.func30, Try.ntmps30
  go_wp2
  go_ret
  exact ⟨rfl, rfl⟩
set_option maxRecDepth 100000 in
theorem bad_zero (W : World) (Z : Nat) (h : W.heap[Z]? = some (.cells #[.pointer none, .pointer none] 49 (0, 0))) : BadOf W (some ⟨Z, 0, none⟩) := by
  intro W1 ho
  have c0 := cell_of_heap (i := 0) ((ho.block Z (heap_lt h) (by simp)).trans h) rfl
  replace c0 : W1.cell? ⟨Z, 0, none⟩ = some (.pointer none) := c0
  clear h ho
  have he := fun W => eql_nil_some ⟨Z, 0, none⟩ W
  go_enter Try.func30, Try.ntmps30
  go_wp2
  go_ret
  exact ⟨rfl, rfl⟩

section
variable {W : World} {a : Option Addr} (h : BadOf W a)
include h
set_option maxRecDepth 100000 in
theorem tree_bad : TreeOf W a .leaf := by
  refine ⟨trivial, fun W1 ho => ?_⟩
  have CV := Lib.hid (h W1 ho)
  clear h ho
  show Calls Try.prog 28 #[.pointer a] W1 fun e w' => e = .returned (.pointer none) ∧ W1 = w'
  go_enter Try.func28, Try.ntmps28
  go_wp2_with fail
  refine CV.out.mono ?_
  rintro e w' ⟨rfl, rfl⟩
  go_wp2_with fail
  go_ret
  exact ⟨rfl, rfl⟩
set_option maxRecDepth 100000 in
theorem Size_bad : Calls Try.prog 20 #[.pointer a] W fun e w' => e = .returned (.int .i64 0) ∧ ∃ n, w' = W.drewN n := by
  have CV := Lib.hid ((tree_bad h).2 W (Only.refl _ _))
  have CS := Lib.hid (sizes_any .leaf W trivial)
  clear h
  go_enter Try.func20, Try.ntmps20
  go_wp2_with fail
  refine CV.out.mono ?_
  rintro e w' ⟨rfl, rfl⟩
  go_wp2_with fail
  refine CS.out.mono ?_
  rintro e w' ⟨rfl, n, rfl⟩
  go_wp2_with fail
  go_ret
  exact ⟨rfl, n, rfl⟩
set_option maxRecDepth 100000 in
theorem Distinct_bad : Calls Try.prog 25 #[.pointer a] W fun e w' => e = .returned (.int .i64 0) ∧ ∃ n, w' = W.drewN n := by
  have CV := Lib.hid ((tree_bad h).2 W (Only.refl _ _))
  have CS := Lib.hid (sizes_any .leaf W trivial)
  clear h
  go_enter Try.func25, Try.ntmps25
  go_wp2_with fail
  refine CV.out.mono ?_
  rintro e w' ⟨rfl, rfl⟩
  go_wp2_with fail
  refine CS.out.mono ?_
  rintro e w' ⟨rfl, n, rfl⟩
  go_wp2_with fail
  go_ret
  exact ⟨rfl, n, rfl⟩
set_option maxRecDepth 100000 in
theorem Count_bad (x : Int) : Calls Try.prog 14 #[.pointer a, .int .i64 x] W fun e w' => e = .returned (.int .i64 0) ∧ W = w' := by
  have CV := Lib.hid ((tree_bad h).2 W (Only.refl _ _))
  clear h
  go_enter Try.func14, Try.ntmps14
  go_wp2_with fail
  refine CV.out.mono ?_
  rintro e w' ⟨rfl, rfl⟩
  go_wp2_with fail
  refine wp_loop_rounds 1 ?_; rw [rounds_succ]
  go_wp2_with fail
  go_ret
  exact ⟨rfl, rfl⟩
set_option maxRecDepth 100000 in
theorem Rank_bad (x : Int) : Calls Try.prog 13 #[.pointer a, .int .i64 x] W fun e w' => e = .returned (.int .i64 0) ∧ W = w' := by
  have CV := Lib.hid ((tree_bad h).2 W (Only.refl _ _))
  clear h
  go_enter Try.func13, Try.ntmps13
  go_wp2_with fail
  refine CV.out.mono ?_
  rintro e w' ⟨rfl, rfl⟩
  go_wp2_with fail
  refine wp_loop_rounds 1 ?_; rw [rounds_succ]
  go_wp2_with fail
  go_ret
  exact ⟨rfl, rfl⟩
set_option maxRecDepth 100000 in
theorem Kth_bad (k : Int) : Calls Try.prog 15 #[.pointer a, .int .i64 k] W fun e w' => e = .returned (.tuple #[.int .i64 0, .bool false]) ∧ ∃ n, w' = W.drewN n := by
  have CV := Lib.hid ((tree_bad h).2 W (Only.refl _ _))
  have CZ := Lib.hid (Size_bad h)
  clear h
  by_cases hk0 : k < 0
  · go_enter Try.func15, Try.ntmps15
    go_wp2_with fail
    refine CV.out.mono ?_
    rintro e w' ⟨rfl, rfl⟩
    go_wp2_with fail
    go_ret2
    exact ⟨rfl, 0, rfl⟩
  · have q1 : decide (k < 0) = false := by simp; omega
    have q2 : 0 ≤ k := by omega
    go_enter Try.func15, Try.ntmps15
    go_wp2_with fail
    refine CV.out.mono ?_
    rintro e w' ⟨rfl, rfl⟩
    go_wp2_with fail
    refine CZ.out.mono ?_
    rintro e w' ⟨rfl, n0, rfl⟩
    go_wp2_with fail
    go_ret2
    exact ⟨rfl, n0, rfl⟩
set_option maxRecDepth 100000 in
theorem Min_bad : Calls Try.prog 21 #[.pointer a] W fun e w' => e = .returned (.tuple #[.int .i64 0, .bool false]) ∧ ∃ n, w' = W.drewN n := by
  have CV := Lib.hid (Kth_bad h 0)
  clear h
  go_enter Try.func21, Try.ntmps21
  go_wp2_with fail
  refine CV.out.mono ?_
  rintro e w' ⟨rfl, n, rfl⟩
  go_wp2_with fail
  go_ret2
  exact ⟨rfl, n, rfl⟩
set_option maxRecDepth 100000 in
theorem Max_bad : Calls Try.prog 22 #[.pointer a] W fun e w' => e = .returned (.tuple #[.int .i64 0, .bool false]) ∧ ∃ n, w' = W.drewN n := by
  have CZ := Lib.hid (Size_bad h)
  have CV := Lib.hid (fun n => Kth_bad (h.only ((Only.refl [] W).drewN n)) (-1))
  clear h
  go_enter Try.func22, Try.ntmps22
  go_wp2_with fail
  refine CZ.out.mono ?_
  rintro e w' ⟨rfl, n0, rfl⟩
  go_wp2_with fail
  refine (CV.out n0).mono ?_
  rintro e w' ⟨rfl, n, rfl⟩
  go_wp2_with fail
  go_ret2
  exact ⟨rfl, n0 + n, rfl⟩
set_option maxRecDepth 100000 in
theorem Sum_bad : Calls Try.prog 18 #[.pointer a] W fun e w' => e = .returned (.tuple #[.int .i64 0, .int .i64 1]) ∧ W = w' := by
  have CV := Lib.hid (h W (Only.refl _ _))
  clear h
  go_enter Try.func18, Try.ntmps18
  go_wp2_with fail
  refine CV.out.mono ?_
  rintro e w' ⟨rfl, rfl⟩
  go_wp2_with fail
  go_ret2
  exact ⟨rfl, rfl⟩
set_option maxRecDepth 100000 in
theorem Squares_bad : Calls Try.prog 19 #[.pointer a] W fun e w' => e = .returned (.tuple #[.int .i64 0, .int .i64 1]) ∧ W = w' := by
  have CV := Lib.hid (h W (Only.refl _ _))
  clear h
  go_enter Try.func19, Try.ntmps19
  go_wp2_with fail
  refine CV.out.mono ?_
  rintro e w' ⟨rfl, rfl⟩
  go_wp2_with fail
  go_ret2
  exact ⟨rfl, rfl⟩
set_option maxRecDepth 100000 in
theorem Add_bad (x k : Int) : Calls Try.prog 17 #[.pointer a, .int .i64 x, .int .i64 k] W fun e w' => e = .returned (.int .i64 1) ∧ Only [] W w' := by
  have CV := Lib.hid (h _ ((Only.refl [] W).alloc (.cells #[.int .i64 k] 3)))
  clear h
  go_enter Try.func17, Try.ntmps17
  go_wp2_with fail
  refine CV.out.mono ?_
  rintro e w' ⟨rfl, rfl⟩
  go_wp2_with fail
  go_ret
  exact ⟨rfl, (Only.refl [] W).alloc _⟩
set_option maxRecDepth 100000 in
theorem Remove_bad (x k : Int) : Calls Try.prog 26 #[.pointer a, .int .i64 x, .int .i64 k] W fun e w' => e = .returned (.int .i64 1) ∧ Only [] W w' := by
  have CV := Lib.hid (h _ ((Only.refl [] W).alloc (.cells #[.int .i64 k] 3)))
  clear h
  go_enter Try.func26, Try.ntmps26
  go_wp2_with fail
  refine CV.out.mono ?_
  rintro e w' ⟨rfl, rfl⟩
  go_wp2_with fail
  go_ret
  exact ⟨rfl, (Only.refl [] W).alloc _⟩
set_option maxRecDepth 100000 in
theorem Copy_bad : Calls Try.prog 27 #[.pointer a] W fun e w' => e = .returned (.pointer none) ∧ W = w' := by
  have CV := Lib.hid (h W (Only.refl _ _))
  clear h
  go_enter Try.func27, Try.ntmps27
  go_wp2_with fail
  refine CV.out.mono ?_
  rintro e w' ⟨rfl, rfl⟩
  go_wp2_with fail
  go_ret
  exact ⟨rfl, rfl⟩
theorem items_bad (m : Nat) : Calls Try.prog 23 #[.pointer a, .int .i64 m] W fun e w' => (∃ A c, e = .returned (.slice A 0 c)) ∧ Only [] W w' := by
  refine (callsIn_wide.1 (items_in a m .leaf W (tree_bad h) (by simp [T.items]))).mono ?_
  rintro e w' ⟨⟨v, rfl, hr⟩, hb⟩
  obtain ⟨A, c, rfl⟩ := row_slice hr
  rw [show (T.items .leaf).take m = [] from by simp [T.items]]
  exact ⟨⟨A, c, rfl⟩, only_of_below hb⟩
end

set_option maxRecDepth 100000 in
set_option maxHeartbeats 4000000 in
theorem bagNil_walk (x k : Int) (w : World) : Calls Try.prog 9 #[.int .i64 x, .int .i64 k] w fun e w' => e = .returned (.bool true) ∧ Below w.heap.size w w' := by
  have CW := Lib.hid (fun W => works_any W)
  obtain ⟨w1, hw1⟩ : ∃ w1, (w.alloc (.cells #[.pointer none, .pointer none] 49)).alloc (.cells #[.pointer none, .pointer (some ⟨w.heap.size, 0, none⟩)] 24) = w1 := ⟨_, rfl⟩
  have hO1 : Only [] w w1 := hw1 ▸ ((Only.refl [] w).alloc _).alloc _
  have k1 : w1.heap[w.heap.size]? = some (.cells #[.pointer none, .pointer none] 49 (0, 0)) := by
    rw [← hw1, heap_alloc_old _ _ (by simp only [World.size_alloc]; omega)]; exact heap_alloc_new _ _
  have k2 : w1.heap[w.heap.size + 1]? = some (.cells #[.pointer none, .pointer (some ⟨w.heap.size, 0, none⟩)] 24 (0, 0)) := by
    rw [← hw1]
    have := heap_alloc_new (w.alloc (.cells #[.pointer none, .pointer none] 49)) (.cells #[.pointer none, .pointer (some ⟨w.heap.size, 0, none⟩)] 24)
    rwa [World.size_alloc] at this
  have HZ := Lib.hid (bad_zero w1 w.heap.size k1)
  have HK := Lib.hid k2
  have HW := Lib.hid hw1
  have HO1 := Lib.hid hO1
  clear k1 k2 hw1 hO1
  go_enter Try.func9, Try.ntmps9
  go_wp2_with fail
  rw [HW.out]
  go_loopw [7] (fun i wr => ∃ j : Nat, j ≤ 2 ∧ i = .int .i64 j ∧ Hid (Only [] w1 wr)) (fun i _ => 2 - (intOf i).toNat)
  case atStart => exact ⟨0, by omega, rfl, Lib.hid (Only.refl [] w1)⟩
  case round =>
    obtain ⟨j, hj, rfl, H0⟩ := hrel
    by_cases hlt : j < 2
    · obtain ⟨a, hc, hb⟩ : ∃ a : Option Addr, wr.cell? ⟨w.heap.size + 1, j, none⟩ = some (.pointer a) ∧ BadOf w1 a := by
        have hh := (H0.out.block _ (heap_lt HK.out) (by simp)).trans HK.out
        have hj2 : j = 0 ∨ j = 1 := by omega
        rcases hj2 with rfl | rfl
        · exact ⟨none, cell_of_heap hh rfl, bad_nil w1⟩
        · exact ⟨_, cell_of_heap hh rfl, HZ.out⟩
      have HB := Lib.hid hb
      clear hb
      go_wp2_with fail
      refine (Min_bad (HB.out.only H0.out)).mono ?_
      rintro e vn1 ⟨rfl, n1, hv⟩
      have H1 := Lib.hid (show Only [] w1 vn1 from hv ▸ H0.out.drewN n1)
      clear hv
      go_wp2_with fail
      refine (Max_bad (HB.out.only H1.out)).mono ?_
      rintro e vn2 ⟨rfl, n2, hv⟩
      have H2 := Lib.hid (show Only [] w1 vn2 from hv ▸ H1.out.drewN n2)
      clear hv
      go_wp2_with fail
      refine (Kth_bad (HB.out.only H2.out) k).mono ?_
      rintro e vn3 ⟨rfl, n3, hv⟩
      have H3 := Lib.hid (show Only [] w1 vn3 from hv ▸ H2.out.drewN n3)
      clear hv
      go_wp2_with fail
      refine (Sum_bad (HB.out.only H3.out)).mono ?_
      rintro e w' ⟨rfl, rfl⟩
      go_wp2_with fail
      refine (Squares_bad (HB.out.only H3.out)).mono ?_
      rintro e w' ⟨rfl, rfl⟩
      go_wp2_with fail
      refine (Add_bad (HB.out.only H3.out) x k).mono ?_
      rintro e w6 ⟨rfl, hO⟩
      have H6 := Lib.hid (H3.out.trans hO)
      clear hO
      go_wp2_with fail
      refine (Remove_bad (HB.out.only H6.out) x k).mono ?_
      rintro e w7 ⟨rfl, hO⟩
      have H7 := Lib.hid (H6.out.trans hO)
      clear hO
      go_wp2_with fail
      refine (Count_bad (HB.out.only H7.out) x).mono ?_
      rintro e w' ⟨rfl, rfl⟩
      go_wp2_with fail
      refine (Size_bad (HB.out.only H7.out)).mono ?_
      rintro e vn8 ⟨rfl, n8, hv⟩
      have H8 := Lib.hid (show Only [] w1 vn8 from hv ▸ H7.out.drewN n8)
      clear hv
      go_wp2_with fail
      refine (Distinct_bad (HB.out.only H8.out)).mono ?_
      rintro e vn9 ⟨rfl, n9, hv⟩
      have H9 := Lib.hid (show Only [] w1 vn9 from hv ▸ H8.out.drewN n9)
      clear hv
      go_wp2_with fail
      refine (Rank_bad (HB.out.only H9.out) x).mono ?_
      rintro e w' ⟨rfl, rfl⟩
      go_wp2_with fail
      refine (items_bad (HB.out.only H9.out) 1).mono ?_
      rintro e w10 ⟨⟨A, c, rfl⟩, hO⟩
      have H10 := Lib.hid (H9.out.trans hO)
      clear hO
      go_wp2_with fail
      refine (Copy_bad (HB.out.only H10.out)).mono ?_
      rintro e w' ⟨rfl, rfl⟩
      go_wp2_with fail
      go_roundw
      case rel => exact ⟨j + 1, by omega, by go_num, H10⟩
      case measure => simp [intOf]; omega
    · go_wp2_with fail
      refine (CW.out _).mono ?_
      rintro e w9 ⟨rfl, hO⟩
      have HO := Lib.hid ((HO1.out.trans H0.out).trans hO)
      clear hO
      go_wp2_with fail
      go_ret
      exact ⟨rfl, HO.out.below⟩
end Go.Proofs.Ytldodcojkdanjaa
