import Derived.Deep.RegionHeld3
import Derived.Deep.Cut
import Derived.Deep.RegionWith
import Derived.Test.YtipgbbhgmoehfaaDoorZ1
/-
  checked: Compare and Reduce of whole numbers from 0 on.
-/
namespace Go.Proofs.YtipgbbhgmoehfaaDoor
open Go.RowKit
attribute [local go_sem] Oper.semAt_some
set_option linter.unusedSimpArgs false
set_option linter.unusedVariables false
set_option linter.unusedSectionVars false

set_option maxRecDepth 100000 in
theorem size_any (x : Nat) (hx : x < 9223372036854775808) (w : World) : Calls Tryd.prog 48 #[.int .i64 x] w fun e w' => e = .returned (.int .u64 x) ∧ w' = w := by
  have q : ¬ ((x : Int) < 0) := by omega
  have q1 : IntKind.u64.wrap (x : Int) = x := by rw [IntKind.wrap_u64]; omega
  go_enter Tryd.func48, Tryd.ntmps48
  go_wp2_with fail
  go_ret
  exact ⟨rfl, rfl⟩
set_option maxRecDepth 100000 in
theorem signed_any (x : Nat) (hx : x < 9223372036854775808) (w : World) : Calls Tryd.prog 50 #[.int .u64 x, .bool false] w fun e w' => e = .returned (.tuple #[.int .i64 x, .int .i64 0]) ∧ w' = w := by
  have q : ¬ ((9223372036854775807 : Int) < (x : Int)) := by omega
  have q1 : IntKind.i64.wrap (x : Int) = x := by rw [IntKind.wrap_i64]; omega
  go_enter Tryd.func50, Tryd.ntmps50
  go_wp2_with fail
  go_ret2
  exact ⟨rfl, rfl⟩
set_option maxRecDepth 100000 in
theorem divisor_any (x : Nat) (hx : x < 9223372036854775808) (w : World) : Calls Tryd.prog 49 #[.int .u64 x, .int .u64 1] w fun e w' => e = .returned (.int .u64 1) ∧ w' = w := by
  go_enter Tryd.func49, Tryd.ntmps49
  go_wp2_with fail
  go_loopw [0, 1] (fun v0 v1 wr => ∃ a b : Nat, v0 = .int .u64 a ∧ v1 = .int .u64 b ∧ (a = 1 ∨ b = 1) ∧ a < 9223372036854775808 ∧ b < 9223372036854775808 ∧ wr = w) (fun v0 _ _ => if intOf v0 = 0 then 0 else if intOf v0 = 1 then 1 else 2)
  case atStart => exact ⟨x, 1, rfl, rfl, .inr rfl, hx, by omega, rfl⟩
  case round =>
    obtain ⟨a, b, rfl, rfl, h1, h2, h3, rfl⟩ := hrel
    by_cases h0 : a = 0
    · subst h0
      obtain rfl : b = 1 := by omega
      go_wp2_with fail
      go_ret
      exact ⟨rfl, rfl⟩
    · have q1 : ((a : Int) != 0) = true := by simp; omega
      have q2 : (a : Int) ≠ 0 := by omega
      have q3 : (b : Int).tmod (a : Int) = ((b % a : Nat) : Int) := by rw [Int.tmod_eq_emod_of_nonneg (by omega)]; omega
      go_wp2_with fail
      have hr : b % a = if a = 1 then 0 else 1 := by
        by_cases e : a = 1
        · rw [if_pos e, e]; omega
        · obtain rfl : b = 1 := by omega
          rw [if_neg e]
          exact Nat.mod_eq_of_lt (by omega)
      have hi : (b : Int) % (a : Int) = ((b % a : Nat) : Int) := rfl
      rw [hi, hr]
      by_cases e : a = 1
      · rw [if_pos e, e]
        exact ⟨⟨0, 1, rfl, rfl, .inr rfl, by omega, by omega, trivial⟩, by simp [intOf]⟩
      · rw [if_neg e]
        refine ⟨⟨1, a, rfl, rfl, .inl rfl, by omega, h2, trivial⟩, ?_⟩
        rw [if_neg (by simp [intOf]), if_pos (by simp [intOf]), if_neg (by simp [intOf]; omega), if_neg (by simp [intOf]; omega)]
        omega
/-- A new struct of two cells gets its values. -/
theorem two_done {w W W5 : World} {R : Nat} {t : TypeId} {x y x' y' : Value} (k : W.heap[R]? = some (.cells #[x, y] t (0, 0))) (hO : Only [] w W) (hR : w.heap.size ≤ R) (h : (W.setCell ⟨R, 0, none⟩ x').setCell ⟨R, 1, none⟩ y' = W5) :
    W5.cell? ⟨R, 0, none⟩ = some x' ∧ W5.cell? ⟨R, 1, none⟩ = some y' ∧ Only [] w W5 ∧ W5.heap[R]? = some (.cells #[x', y'] t (0, 0)) := by
  have k5 := heap_setCell_same _ _ 1 _ t y' (heap_setCell_same W _ 0 _ t x' k)
  rw [h] at k5
  have hO5 : Only [R] W W5 := h ▸ ((Only.refl [R] W).setCell (g := R) (i := 0) (by simp) x').setCell (g := R) (i := 1) (by simp) y'
  exact ⟨cell_of_heap (i := 0) k5 rfl, cell_of_heap (i := 1) k5 rfl, hO.to hO5 (fun j hj hlt => by simp at hj; omega), k5⟩
/-- A new struct of two cells. -/
theorem two_new {w W1 : World} {t : TypeId} {x y : Value} (h : w.alloc (.cells #[x, y] t) = W1) :
    W1.heap[w.heap.size]? = some (.cells #[x, y] t (0, 0)) ∧ Only [] w W1 ∧ W1.cell? ⟨w.heap.size, 0, none⟩ = some x ∧ W1.cell? ⟨w.heap.size, 1, none⟩ = some y ∧ W1.frozen? ⟨w.heap.size, 0, none⟩ = false ∧ W1.frozen? ⟨w.heap.size, 1, none⟩ = false ∧ W1.heap.size = w.heap.size + 1 := by
  have k0 : W1.heap[w.heap.size]? = some (.cells #[x, y] t (0, 0)) := h ▸ heap_alloc_new w _
  exact ⟨k0, h ▸ (Only.refl [] w).alloc _, cell_of_heap (i := 0) k0 rfl, cell_of_heap (i := 1) k0 rfl, frozen_of_heap (i := 0) k0, frozen_of_heap (i := 1) k0, by rw [← h, World.size_alloc]⟩
set_option maxRecDepth 100000 in
theorem product_any (x y : Nat) (hx : x < 18446744073709551616) (hy : y < 18446744073709551616) (w : World) :
    Calls Tryd.prog 47 #[.int .u64 x, .int .u64 y] w fun e w' => e = .returned (.agg #[.int .u64 ((x * y / 18446744073709551616 : Nat) : Int), .int .u64 ((x * y % 18446744073709551616 : Nat) : Int)]) ∧ Only [] w w' := by
  have CM := fun W => mul64_any x y hx hy W
  obtain ⟨a, ha⟩ : ∃ a, x * y / 18446744073709551616 = a := ⟨_, rfl⟩
  obtain ⟨b, hb⟩ : ∃ b, x * y % 18446744073709551616 = b := ⟨_, rfl⟩
  rw [ha, hb] at CM ⊢
  clear ha hb
  go_enter Tryd.func47, Tryd.ntmps47
  go_upto_region 1 with (fail)
  obtain ⟨W1, hW1⟩ : ∃ W1, w.alloc (.cells #[.int .u64 0, .int .u64 0] 116) = W1 := ⟨_, rfl⟩
  obtain ⟨k0, hO, d0, d1, y0, y1, hs⟩ := two_new hW1
  rw [hW1]
  obtain ⟨R, hR⟩ : ∃ R, w.heap.size = R := ⟨_, rfl⟩
  have HO := Lib.hid hO
  have HK := Lib.hid k0
  have HR := Lib.hid (Nat.le_of_eq hR)
  rw [hR] at HK d0 d1 y0 y1 ⊢
  clear hO k0 hs hW1 hR
  go_wp2_with (go_at_call 65; refine (CM _).mono ?_; rintro e w' ⟨rfl, rfl⟩)
  obtain ⟨W5, hW5⟩ : ∃ W5, (W1.setCell ⟨R, 0, none⟩ (.int .u64 a)).setCell ⟨R, 1, none⟩ (.int .u64 b) = W5 := ⟨_, rfl⟩
  obtain ⟨e0, e1, hO5, _⟩ := two_done HK.out HO.out HR.out hW5
  rw [hW5]
  clear d0 d1 y0 y1 hW5
  exact bodyPost_ret (v := .agg #[.int .u64 a, .int .u64 b]) (by simp [results, Tryd.results47, go_sem, e0, e1]) rfl ⟨rfl, hO5⟩
set_option maxRecDepth 100000 in
set_option maxHeartbeats 2000000 in
theorem Reduce_any (x : Nat) (hx : x < 9223372036854775808) (w : World) :
    Calls Tryd.prog 34 #[.int .i64 x, .int .i64 1] w fun e w' => e = .returned (.tuple #[.agg #[.int .i64 x, .int .i64 1], .int .i64 0]) ∧ Only [] w w' := by
  have CS := fun W => size_any x hx W
  have CS1 : ∀ W, Calls Tryd.prog 48 #[.int .i64 1] W fun e w' => e = .returned (.int .u64 1) ∧ w' = W := fun W => size_any 1 (by omega) W
  have CD := fun W => divisor_any x hx W
  have CG := fun W => signed_any x hx W
  have CG1 : ∀ W, Calls Tryd.prog 50 #[.int .u64 1, .bool false] W fun e w' => e = .returned (.tuple #[.int .i64 1, .int .i64 0]) ∧ w' = W := fun W => signed_any 1 (by omega) W
  have q : decide ((x : Int) < 0) = false := by simp
  have q1 : IntKind.u64.wrap (x : Int) = x := by rw [IntKind.wrap_u64]; omega
  clear hx
  go_enter Tryd.func34, Tryd.ntmps34
  go_upto_region 1 with (fail)
  obtain ⟨W1, hW1⟩ : ∃ W1, w.alloc (.cells #[.int .i64 0, .int .i64 0] 44) = W1 := ⟨_, rfl⟩
  obtain ⟨k0, hO, d0, d1, y0, y1, hs⟩ := two_new hW1
  rw [hW1]
  obtain ⟨R, hR⟩ : ∃ R, w.heap.size = R := ⟨_, rfl⟩
  have HO := Lib.hid hO
  have HK := Lib.hid k0
  have HR := Lib.hid (Nat.le_of_eq hR)
  rw [hR] at HK d0 d1 y0 y1 ⊢
  clear hO k0 hs hW1 hR
  go_wp2_with fail
  refine (CS _).mono ?_
  rintro e w' ⟨rfl, rfl⟩
  go_wp2_with fail
  refine (CS1 _).mono ?_
  rintro e w' ⟨rfl, rfl⟩
  go_wp2_with fail
  refine (CD _).mono ?_
  rintro e w' ⟨rfl, rfl⟩
  go_wp2_with fail
  refine (CG _).mono ?_
  rintro e w' ⟨rfl, rfl⟩
  go_wp2_with fail
  refine (CG1 _).mono ?_
  rintro e w' ⟨rfl, rfl⟩
  go_wp2_with fail
  obtain ⟨W5, hW5⟩ : ∃ W5, (w'.setCell ⟨R, 0, none⟩ (.int .i64 x)).setCell ⟨R, 1, none⟩ (.int .i64 1) = W5 := ⟨_, rfl⟩
  obtain ⟨e0, e1, hO5, _⟩ := two_done HK.out HO.out HR.out hW5
  rw [hW5]
  clear d0 d1 y0 y1 hW5 CS CS1 CD CG CG1
  exact bodyPost_ret (v := .tuple #[.agg #[.int .i64 x, .int .i64 1], .int .i64 0]) (by simp [results, Tryd.results34, go_sem, e0, e1]) rfl ⟨rfl, hO5⟩

def cmpI (a b : Nat) : Int := if a < b then -1 else if b < a then 1 else 0
set_option maxRecDepth 100000 in
set_option maxHeartbeats 4000000 in
theorem Compare_any (a b : Nat) (ha : a < 9223372036854775808) (hb : b < 9223372036854775808) (w : World) :
    Calls Tryd.prog 33 #[.agg #[.int .i64 a, .int .i64 1], .agg #[.int .i64 b, .int .i64 1]] w fun e w' => e = .returned (.tuple #[.int .i64 (cmpI a b), .int .i64 0]) ∧ Only [] w w' := by
  have CSa := fun W => size_any a ha W
  have CSb := fun W => size_any b hb W
  have CPa : ∀ W, Calls Tryd.prog 47 #[.int .u64 a, .int .u64 1] W fun e w' => e = .returned (.agg #[.int .u64 0, .int .u64 a]) ∧ Only [] W w' := fun W => (product_any a 1 (by omega) (by omega) W).mono fun e w' h => ⟨by rw [h.1, Nat.mul_one, Nat.div_eq_of_lt (by omega), Nat.mod_eq_of_lt (by omega)]; rfl, h.2⟩
  have CPb : ∀ W, Calls Tryd.prog 47 #[.int .u64 b, .int .u64 1] W fun e w' => e = .returned (.agg #[.int .u64 0, .int .u64 b]) ∧ Only [] W w' := fun W => (product_any b 1 (by omega) (by omega) W).mono fun e w' h => ⟨by rw [h.1, Nat.mul_one, Nat.div_eq_of_lt (by omega), Nat.mod_eq_of_lt (by omega)]; rfl, h.2⟩
  have q : decide ((a : Int) < 0) = false := by simp
  have q1 : decide ((b : Int) < 0) = false := by simp
  clear ha hb
  go_enter Tryd.func33, Tryd.ntmps33
  go_upto_region 8 with (fail)
  obtain ⟨W1, hW1⟩ : ∃ W1, (w.alloc (.cells #[.int .i64 a, .int .i64 1] 44)).alloc (.cells #[.int .i64 b, .int .i64 1] 44) = W1 := ⟨_, rfl⟩
  rw [hW1]
  have k0 : W1.heap[w.heap.size]? = some (.cells #[.int .i64 a, .int .i64 1] 44 (0, 0)) := by
    rw [← hW1]
    exact (heap_alloc_old _ _ (by rw [World.size_alloc]; omega)).trans (heap_alloc_new w _)
  have k1 : W1.heap[w.heap.size + 1]? = some (.cells #[.int .i64 b, .int .i64 1] 44 (0, 0)) := by
    rw [← hW1]
    have := heap_alloc_new (w.alloc (.cells #[.int .i64 a, .int .i64 1] 44)) (.cells #[.int .i64 b, .int .i64 1] 44)
    rwa [World.size_alloc] at this
  have hO1 : Only [] w W1 := hW1 ▸ ((Only.refl [] w).alloc _).alloc _
  obtain ⟨Ra, hRa⟩ : ∃ Ra, w.heap.size = Ra := ⟨_, rfl⟩
  obtain ⟨Rb, hRb⟩ : ∃ Rb, Ra + 1 = Rb := ⟨_, rfl⟩
  have HO1 := Lib.hid hO1
  rw [hRa] at k0 k1 ⊢
  rw [hRb] at k1 ⊢
  have c0 := cell_of_heap (i := 0) k0 rfl
  have c1 := cell_of_heap (i := 1) k0 rfl
  have d0 := cell_of_heap (i := 0) k1 rfl
  have d1 := cell_of_heap (i := 1) k1 rfl
  have K0 := Lib.hid k0
  have K1 := Lib.hid k1
  simp only [List.getElem_toArray, List.getElem_cons_zero, List.getElem_cons_succ] at c0 c1 d0 d1
  clear hW1 k0 k1 hO1 hRa hRb
  have n0 : (W1.alloc (.cells #[.int .u64 0, .int .u64 0] 116)).cell? ⟨Ra, 0, none⟩ = some (.int .i64 a) := Lib.cell?_alloc_some _ c0
  have n2 : (W1.alloc (.cells #[.int .u64 0, .int .u64 0] 116)).cell? ⟨Rb, 1, none⟩ = some (.int .i64 1) := Lib.cell?_alloc_some _ d1
  go_cut [7] from 10 (fun s wc => ∃ R7, s = .pointer (some ⟨R7, 0, none⟩) ∧ Hid (wc.heap[R7]? = some (.cells #[.int .u64 0, .int .u64 a] 116 (0, 0))) ∧ Hid (Only [] W1 wc))
  case first =>
    --[
    go_region_with (first | (refine (CSa _).mono ?_; rintro e w' ⟨rfl, rfl⟩) | (refine (CPa _).mono ?_; rintro e w' ⟨rfl, hO⟩; first | (have k7 := (hO.block W1.heap.size (by show _ < (World.alloc W1 _).heap.size; rw [World.size_alloc]; omega) (by simp)).trans (heap_alloc_new W1 _); have g0 := cell_of_heap (i := 0) k7 rfl; have g1 := cell_of_heap (i := 1) k7 rfl; have y0 := frozen_of_heap (i := 0) k7; have y1 := frozen_of_heap (i := 1) k7; simp only [List.getElem_toArray, List.getElem_cons_zero, List.getElem_cons_succ] at g0 g1; replace hO := Lib.hid hO; replace k7 := Lib.hid k7) | (replace hO := Lib.hid hO)))
    all_goals
      go_wp2_with fail
      go_meet
    all_goals
      clear n0 n2
      first
      | exact ⟨_, rfl, Lib.hid (heap_alloc_new _ _), Lib.hid ((((Only.refl [] W1).drewN 1).trans hO.out).alloc _)⟩
      | exact ⟨_, rfl, Lib.hid (two_done (w := W1) k7.out ((((Only.refl [] W1).alloc _).drewN 1).trans hO.out) (Nat.le_refl _) rfl).2.2.2, Lib.hid (two_done (w := W1) k7.out ((((Only.refl [] W1).alloc _).drewN 1).trans hO.out) (Nat.le_refl _) rfl).2.2.1⟩
      | skip
    --]
  case rest =>
    obtain ⟨R7, rfl, K7, HO7⟩ := hcut
    have k0' := (HO7.out.block _ (heap_lt K0.out) (by simp)).trans K0.out
    have k1' := (HO7.out.block _ (heap_lt K1.out) (by simp)).trans K1.out
    have HO1' := Lib.hid (HO1.out.trans HO7.out)
    replace c0 := cell_of_heap (i := 0) k0' rfl
    replace c1 := cell_of_heap (i := 1) k0' rfl
    replace d0 := cell_of_heap (i := 0) k1' rfl
    replace d1 := cell_of_heap (i := 1) k1' rfl
    simp only [List.getElem_toArray, List.getElem_cons_zero, List.getElem_cons_succ] at c0 c1 d0 d1
    clear k0' k1' K0 K1 HO1 HO7 n0 n2
    have n0 : (wc.alloc (.cells #[.int .u64 0, .int .u64 0] 116)).cell? ⟨Rb, 0, none⟩ = some (.int .i64 b) := Lib.cell?_alloc_some _ d0
    have n2 : (wc.alloc (.cells #[.int .u64 0, .int .u64 0] 116)).cell? ⟨Ra, 1, none⟩ = some (.int .i64 1) := Lib.cell?_alloc_some _ c1
    obtain ⟨W2, hW2⟩ : ∃ W2, wc = W2 := ⟨_, rfl⟩
    rw [hW2] at n0 n2 c0 c1 d0 d1 HO1' K7 ⊢
    clear hW2 W1
    go_upto_region 9 with (fail)
    go_cut [8] from 10 (fun s wd => ∃ R8, s = .pointer (some ⟨R8, 0, none⟩) ∧ Hid (wd.heap[R8]? = some (.cells #[.int .u64 0, .int .u64 b] 116 (0, 0))) ∧ Hid (Only [] W2 wd))
    case first =>
      --[
      go_region_with (first | (refine (CSb _).mono ?_; rintro e w' ⟨rfl, rfl⟩) | (refine (CPb _).mono ?_; rintro e w' ⟨rfl, hO⟩; first | (have k7 := (hO.block W2.heap.size (by show _ < (World.alloc W2 _).heap.size; rw [World.size_alloc]; omega) (by simp)).trans (heap_alloc_new W2 _); have g0 := cell_of_heap (i := 0) k7 rfl; have g1 := cell_of_heap (i := 1) k7 rfl; have y0 := frozen_of_heap (i := 0) k7; have y1 := frozen_of_heap (i := 1) k7; simp only [List.getElem_toArray, List.getElem_cons_zero, List.getElem_cons_succ] at g0 g1; replace hO := Lib.hid hO; replace k7 := Lib.hid k7) | (replace hO := Lib.hid hO)))
      all_goals
        go_wp2_with fail
        go_meet
      all_goals
        clear n0 n2
        first
        | exact ⟨_, rfl, Lib.hid (heap_alloc_new _ _), Lib.hid ((((Only.refl [] W2).drewN 1).trans hO.out).alloc _)⟩
        | exact ⟨_, rfl, Lib.hid (two_done (w := W2) k7.out ((((Only.refl [] W2).alloc _).drewN 1).trans hO.out) (Nat.le_refl _) rfl).2.2.2, Lib.hid (two_done (w := W2) k7.out ((((Only.refl [] W2).alloc _).drewN 1).trans hO.out) (Nat.le_refl _) rfl).2.2.1⟩
        | skip
      --]
    case rest =>
      obtain ⟨R8, rfl, K8, HO8⟩ := hcut
      have HOd := Lib.hid (HO1'.out.trans HO8.out)
      have HK7 := Lib.hid ((HO8.out.block _ (heap_lt K7.out) (by simp)).trans K7.out)
      clear K7 HO1' HO8 n0 n2 c0 c1 d0 d1 CSa CSb CPa CPb
      go_wp2_with fail
      go_loopw [44] (fun y wr => (y = .int .i64 0 ∨ y = .int .i64 1 ∨ (y = .int .i64 2 ∧ a = b)) ∧ Hid (Only [] wc wr)) (fun y _ => 2 - (intOf y).toNat)
      case atStart => exact ⟨.inl rfl, Lib.hid (Only.refl _ _)⟩
      case round =>
        obtain ⟨hi3, HO⟩ := hrel
        have k7 := (HO.out.block _ (heap_lt HK7.out) (by simp)).trans HK7.out
        have k8 := (HO.out.block _ (heap_lt K8.out) (by simp)).trans K8.out
        have x0 := cell_of_heap (i := 0) k7 rfl
        have x1 := cell_of_heap (i := 1) k7 rfl
        have z0 := cell_of_heap (i := 0) k8 rfl
        have z1 := cell_of_heap (i := 1) k8 rfl
        simp only [List.getElem_toArray, List.getElem_cons_zero, List.getElem_cons_succ] at x0 x1 z0 z1
        clear k7 k8 HK7 K8
        rcases hi3 with rfl | rfl | ⟨rfl, e⟩
        · go_wp2_with fail
          go_region
          go_wp2_with fail
          go_region
          go_wp2_with fail
          exact ⟨⟨.inr (.inl rfl), Lib.hid (by first | exact HO.out | exact HO.out.drewN 2)⟩, by simp [intOf]⟩
        · by_cases h1 : a < b
          · have q2 : (a : Int) < (b : Int) := by omega
            go_wp2_with fail
            go_region
            go_wp2_with fail
            go_ret2
            rw [show cmpI a b = -1 by unfold cmpI; rw [if_pos h1]]
            refine ⟨rfl, ?_⟩
            first | exact HOd.out.trans HO.out | exact (HOd.out.trans HO.out).drewN 1
          · have q2 : ¬ (a : Int) < (b : Int) := by omega
            by_cases h2 : b < a
            · have q3 : (b : Int) < (a : Int) := by omega
              go_wp2_with fail
              go_region
              go_wp2_with fail
              go_region
              go_wp2_with fail
              go_ret2
              rw [show cmpI a b = 1 by unfold cmpI; rw [if_neg h1, if_pos h2]]
              refine ⟨rfl, ?_⟩
              first | exact HOd.out.trans HO.out | exact (HOd.out.trans HO.out).drewN 2
            · have q3 : ¬ (b : Int) < (a : Int) := by omega
              go_wp2_with fail
              go_region
              go_wp2_with fail
              go_region
              go_wp2_with fail
              exact ⟨⟨.inr (.inr ⟨rfl, by omega⟩), Lib.hid (by first | exact HO.out | exact HO.out.drewN 2)⟩, by simp [intOf]⟩
        · go_wp2_with fail
          go_ret2
          rw [show cmpI a b = 0 by unfold cmpI; rw [if_neg (by omega), if_neg (by omega)]]
          exact ⟨rfl, HOd.out.trans HO.out⟩

end Go.Proofs.YtipgbbhgmoehfaaDoor
