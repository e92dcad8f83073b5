/-
  Tallies that are nil or were not made by New or Even; the walk of TallyNil.
-/
import Derived.Test.YtbafacdknaopjaaL1
namespace Go.Proofs.Ytbafacdknaopjaa
open Go.RowKit Go.Shelf
attribute [local go_sem] Oper.semAt_some
set_option linter.unusedSimpArgs false
set_option linter.unusedSectionVars false

/-- A pointer that is no valid tally, from here on. -/
def BadT (W : World) (a : Option Addr) : Prop := ∀ W1, Only [] W W1 → Calls Try.prog 72 #[.pointer a] W1 fun e w' => e = .returned (.bool false) ∧ W1 = w'
theorem BadT.only {W W1 : World} {a : Option Addr} (h : BadT W a) (ho : Only [] W W1) : BadT W1 a := fun W2 h2 => h W2 (ho.trans h2)
theorem eql_nil_tally (a : Addr) (w : World) : (binOp .eql 24 (.pointer none) (.pointer (some a))).run Try.prog w = .ok (.bool false) w := by
  have h : ∀ d : Nat, (Op.equalIn (d + 1) 24 (.pointer none) (.pointer (some a))).run Try.prog w = .ok false w := fun d => by
    simp [Op.equalIn, run_underlying Try.underlying24]
  simp only [binOp]
  simp [Op.equal, Op.maxDepth, h 9999]

set_option maxRecDepth 100000 in
theorem badT_nil (W : World) : BadT W none := by
  intro W1 _
  go_enter Try.func72, Try.ntmps72
  go_wp2
  go_ret
  exact ⟨rfl, rfl⟩
def zeroT : Array Value := #[.pointer none, .pointer none, .slice none 0 0, .pointer none]
set_option maxRecDepth 100000 in
theorem badT_zero (W : World) (Z : Nat) (h : W.heap[Z]? = some (.cells zeroT 65 (0, 0))) : BadT W (some ⟨Z, 0, none⟩) := by
  intro W1 ho
  have c0 := cell_of_heap (i := 0) ((ho.block Z (heap_lt h) (by simp)).trans h) rfl
  replace c0 : W1.cell? ⟨Z, 0, none⟩ = some (.pointer none) := c0
  clear h ho
  have he := fun W => eql_nil_tally ⟨Z, 0, none⟩ W
  go_enter Try.func72, Try.ntmps72
  go_wp2
  go_ret
  exact ⟨rfl, rfl⟩

section
variable {W : World} {a : Option Addr} (h : BadT W a)
include h
set_option maxRecDepth 100000 in
theorem UnionB (x y : Int) : Calls Try.prog 32 #[.pointer a, .int .i64 x, .int .i64 y] W fun e w' => e = .returned (.tuple #[.bool false, .int .i64 1]) ∧ W = w' := by
  have CV := Lib.hid (h W (Only.refl _ _))
  clear h
  go_enter Try.func32, Try.ntmps32
  go_wp2_with fail
  refine CV.out.mono ?_
  rintro e w' ⟨rfl, rfl⟩
  go_wp2_with fail
  go_ret2
  exact ⟨rfl, rfl⟩
set_option maxRecDepth 100000 in
theorem WeightB (x : Int) : Calls Try.prog 28 #[.pointer a, .int .i64 x] W fun e w' => e = .returned (.int .i64 0) ∧ W = w' := by
  have CV := Lib.hid (h W (Only.refl _ _))
  clear h
  go_enter Try.func28, Try.ntmps28
  go_wp2_with fail
  refine CV.out.mono ?_
  rintro e w' ⟨rfl, rfl⟩
  go_wp2_with fail
  go_ret
  exact ⟨rfl, rfl⟩
set_option maxRecDepth 100000 in
theorem LargestB : Calls Try.prog 31 #[.pointer a] W fun e w' => e = .returned (.int .i64 0) ∧ W = w' := by
  have CV := Lib.hid (h W (Only.refl _ _))
  clear h
  go_enter Try.func31, Try.ntmps31
  go_wp2_with fail
  refine CV.out.mono ?_
  rintro e w' ⟨rfl, rfl⟩
  go_wp2_with fail
  go_ret
  exact ⟨rfl, rfl⟩
set_option maxRecDepth 100000 in
theorem CountB : Calls Try.prog 29 #[.pointer a] W fun e w' => e = .returned (.int .i64 0) ∧ W = w' := by
  have CV := Lib.hid (h W (Only.refl _ _))
  clear h
  go_enter Try.func29, Try.ntmps29
  go_wp2_with fail
  refine CV.out.mono ?_
  rintro e w' ⟨rfl, rfl⟩
  go_wp2_with fail
  go_ret
  exact ⟨rfl, rfl⟩
set_option maxRecDepth 100000 in
theorem SquaresB : Calls Try.prog 30 #[.pointer a] W fun e w' => e = .returned (.int .i64 0) ∧ W = w' := by
  have CV := Lib.hid (h W (Only.refl _ _))
  clear h
  go_enter Try.func30, Try.ntmps30
  go_wp2_with fail
  refine CV.out.mono ?_
  rintro e w' ⟨rfl, rfl⟩
  go_wp2_with fail
  go_ret
  exact ⟨rfl, rfl⟩
set_option maxRecDepth 100000 in
theorem CopyB : Calls Try.prog 41 #[.pointer a] W fun e w' => e = .returned (.pointer none) ∧ W = w' := by
  have CV := Lib.hid (h W (Only.refl _ _))
  clear h
  go_enter Try.func41, Try.ntmps41
  go_wp2_with fail
  refine CV.out.mono ?_
  rintro e w' ⟨rfl, rfl⟩
  go_wp2_with fail
  go_ret
  exact ⟨rfl, rfl⟩
set_option maxRecDepth 100000 in
set_option maxHeartbeats 2000000 in
theorem overB : Over W a [] := by
  intro n Tb W2 hn hO2 hTb l J Jx W3 hO hl hJ hJx hY h0
  have c1 : W3.cell? ⟨Tb, 0, none⟩ = some (.pointer a) := cells_keep hO hTb (by simp)
  obtain ⟨W0, hW0⟩ : ∃ W0, W3.alloc (.cells #[.func (.yield l) #[] #[]] 204) = W0 := ⟨_, rfl⟩
  have hO0 : Only [] W3 W0 := hW0 ▸ (Only.refl [] W3).alloc _
  have CV := Lib.hid (h W0 ((hO2.trans hO).trans hO0))
  have HW := Lib.hid hW0
  have HJ := Lib.hid (show J [] W0 by rw [← hW0]; exact hJ.alloc _ h0)
  have hb1 := cell_lt c1
  clear hTb hO hO0 hW0 h0 hO2 h hY
  refine callsIn_of_wp_marks Try.func141 rfl trivial ?_ rfl
  simp only [Try.ntmps141, List.size_toArray, List.length_cons, List.length_nil, Nat.reduceAdd, Nat.reduceSub, Array.replicate_succ, Array.replicate_zero, List.push_toArray, List.append_toArray, List.nil_append, List.cons_append]
  have hdp : ∀ m : Nat, (Fence.wide.depth.isSome = true → 1 ≤ m) := fun m h => by cases h
  gi_wp2_with fail
  rw [HW.out]
  clear c1
  refine ⟨trivial, hdp _, callsIn_wide.2 (CV.out.mono ?_)⟩
  rintro e w' ⟨rfl, rfl⟩
  gi_wp2_with fail
  exact ⟨_, results_none rfl _ _ _, ⟨_, rfl⟩, .inl HJ.out⟩
theorem PairsB (m : Nat) : Calls Try.prog 37 #[.pointer a, .int .i64 m] W fun e w' => (∃ v, e = .returned v ∧ Reads w' v []) ∧ Only [] W w' := by
  refine (callsIn_wide.1 (pairs_in a m [] W (overB h) (by simp))).mono ?_
  rintro e w' ⟨⟨v, rfl, hr⟩, hb⟩
  rw [List.take_nil] at hr
  exact ⟨⟨v, rfl, Reads.of_row hr⟩, only_of_below' hb⟩
end

set_option maxRecDepth 100000 in
set_option maxHeartbeats 4000000 in
theorem tallyNil_walk (x y : Int) (w : World) : Calls Try.prog 11 #[.int .i64 x, .int .i64 y] w fun e w' => e = .returned (.bool true) ∧ Below w.heap.size w w' := by
  have CW := Lib.hid (fun W => works_any W)
  obtain ⟨w1, hw1⟩ : ∃ w1, (w.alloc (.cells #[.pointer none, .pointer none, .slice none 0 0, .pointer none] 65)).alloc (.cells #[.pointer none, .pointer (some ⟨w.heap.size, 0, none⟩)] 24) = w1 := ⟨_, rfl⟩
  have hO1 : Only [] w w1 := hw1 ▸ ((Only.refl [] w).alloc _).alloc _
  have k1 : w1.heap[w.heap.size]? = some (.cells zeroT 65 (0, 0)) := by
    rw [← hw1, heap_alloc_old _ _ (by simp only [World.size_alloc]; omega)]; exact heap_alloc_new _ _
  have k2 : w1.heap[w.heap.size + 1]? = some (.cells #[.pointer none, .pointer (some ⟨w.heap.size, 0, none⟩)] 24 (0, 0)) := by
    rw [← hw1]
    have := heap_alloc_new (w.alloc (.cells #[.pointer none, .pointer none, .slice none 0 0, .pointer none] 65)) (.cells #[.pointer none, .pointer (some ⟨w.heap.size, 0, none⟩)] 24)
    rwa [World.size_alloc] at this
  have HZ := Lib.hid (badT_zero w1 w.heap.size k1)
  have HK := Lib.hid k2
  have HW := Lib.hid hw1
  have HO1 := Lib.hid hO1
  clear k1 k2 hw1 hO1
  go_enter Try.func11, Try.ntmps11
  go_wp2_with fail
  rw [HW.out]
  go_loopw [7] (fun i wr => ∃ j : Nat, j ≤ 2 ∧ i = .int .i64 j ∧ Hid (Only [] w1 wr)) (fun i _ => 2 - (intOf i).toNat)
  case atStart => exact ⟨0, by omega, rfl, Lib.hid (Only.refl [] w1)⟩
  case round =>
    obtain ⟨j, hj, rfl, H0⟩ := hrel
    by_cases hlt : j < 2
    · obtain ⟨a, hc, hb⟩ : ∃ a : Option Addr, wr.cell? ⟨w.heap.size + 1, j, none⟩ = some (.pointer a) ∧ BadT w1 a := by
        have hh := (H0.out.block _ (heap_lt HK.out) (by simp)).trans HK.out
        have hj2 : j = 0 ∨ j = 1 := by omega
        rcases hj2 with rfl | rfl
        · exact ⟨none, cell_of_heap hh rfl, badT_nil w1⟩
        · exact ⟨_, cell_of_heap hh rfl, HZ.out⟩
      have HB := Lib.hid (hb.only H0.out)
      clear hb
      go_wp2_with fail
      refine (UnionB HB.out x y).mono ?_
      rintro e w' ⟨rfl, rfl⟩
      go_wp2_with fail
      refine (WeightB HB.out x).mono ?_
      rintro e w' ⟨rfl, rfl⟩
      go_wp2_with fail
      refine (LargestB HB.out).mono ?_
      rintro e w' ⟨rfl, rfl⟩
      go_wp2_with fail
      refine (CountB HB.out).mono ?_
      rintro e w' ⟨rfl, rfl⟩
      go_wp2_with fail
      refine (SquaresB HB.out).mono ?_
      rintro e w' ⟨rfl, rfl⟩
      go_wp2_with fail
      refine (PairsB HB.out 1).mono ?_
      rintro e w10 ⟨⟨v, rfl, hr⟩, hO⟩
      obtain ⟨A, c, rfl, _⟩ := hr
      have H10 := Lib.hid (H0.out.trans hO)
      have HB10 := Lib.hid (HB.out.only hO)
      clear hO
      go_wp2_with fail
      refine (CopyB HB10.out).mono ?_
      rintro e w' ⟨rfl, rfl⟩
      go_wp2_with fail
      go_roundw
      case rel => exact ⟨j + 1, by omega, by go_num, H10⟩
      case measure => simp [intOf]; omega
    · go_wp2_with fail
      refine (CW.out _).mono ?_
      rintro e w9 ⟨rfl, hO⟩
      have HO := Lib.hid ((HO1.out.trans H0.out).trans hO)
      clear hO
      go_wp2_with fail
      go_ret
      exact ⟨rfl, HO.out.below⟩
end Go.Proofs.Ytbafacdknaopjaa
