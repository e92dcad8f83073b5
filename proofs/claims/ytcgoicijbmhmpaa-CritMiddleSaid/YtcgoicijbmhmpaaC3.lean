/-
  Means and variances: the walks of program and reference.
-/
import Derived.Test.YtcgoicijbmhmpaaC2
namespace Go.Proofs.Ytcgoicijbmhmpaa
open Go.RowKit Go.Fl Go.Deep

set_option maxRecDepth 100000 in
set_option maxHeartbeats 1000000 in
theorem Mean_bad (A : Option Addr) (n c : Nat) (f : Nat → Nat) (w : World) (h : ListIn w A n f) (hl : listB n f = false) :
    Calls Try.prog 50 #[.slice A n c] w fun e w' => e = .returned (.tuple #[.float .f64 0, .float .f64 0, .int .i64 2]) ∧ w = w' := by
  have CL := Lib.hid (cisList_any A n c f w h)
  rw [hl] at CL
  clear h hl
  go_enter Try.func50, Try.ntmps50
  go_wp2_with (go_at_call 73; refine CL.out.mono ?_; rintro e w' ⟨rfl, rfl⟩)
  go_ret3
  exact ⟨rfl, rfl⟩
set_option maxRecDepth 100000 in
set_option maxHeartbeats 1000000 in
theorem refMean_bad (A : Option Addr) (n c : Nat) (f : Nat → Nat) (w : World) (h : ListIn w A n f) (hl : listB n f = false) :
    Calls Try.prog 51 #[.slice A n c] w fun e w' => e = .returned (.tuple #[.float .f64 0, .float .f64 0, .int .i64 2]) ∧ w = w' := by
  have CL := Lib.hid (values_any A n c f w h)
  rw [hl] at CL
  clear h hl
  go_enter Try.func51, Try.ntmps51
  go_wp2_with (go_at_call 78; refine CL.out.mono ?_; rintro e w' ⟨rfl, rfl⟩)
  go_ret3
  exact ⟨rfl, rfl⟩

set_option maxRecDepth 100000 in
set_option maxHeartbeats 2000000 in
theorem Mean_ok (A : Option Addr) (n c : Nat) (f : Nat → Nat) (w : World) (h : ListIn w A n f) (hl : listB n f = true) :
    Calls Try.prog 50 #[.slice A n c] w fun e w' => e = .returned (.tuple #[.float .f64 (mean f n), .float .f64 (vari f n), .int .i64 0]) ∧ w = w' := by
  have CL := Lib.hid (cisList_any A n c f w h)
  rw [hl] at CL
  obtain ⟨h1, h2, _⟩ := listB_parts hl
  have M := Lib.hid (meanOk h1 h2 (vals_fin h.wf hl))
  obtain ⟨b, off, rfl, _, hc⟩ := h.row (by omega)
  have HC := Lib.hid hc
  have hq1 := fun ty W => run_float_arith (P := Try.prog) W .quo ty .f64 _ _ _ M.out.quo1
  have hq2 := fun ty W => run_float_arith (P := Try.prog) W .quo ty .f64 _ _ _ M.out.quo2
  clear h hl hc
  go_enter Try.func50, Try.ntmps50
  go_wp2_with (go_at_call 73; refine CL.out.mono ?_; rintro e w' ⟨rfl, rfl⟩)
  go_loop [6, 20] (fun s i => ∃ k : Nat, k ≤ n ∧ i = .int .i64 k ∧ s = .float .f64 (psum f k)) (fun _ i => n - (intOf i).toNat)
  case atStart => exact ⟨0, Nat.zero_le _, rfl, rfl⟩
  case round =>
    obtain ⟨k, hk, rfl, rfl⟩ := hrel
    by_cases hkn : k < n
    · have c1 := HC.out k hkn
      have ha := fun ty W => run_float_arith (P := Try.prog) W .add ty .f64 _ _ _ (M.out.add1 k hkn)
      have l3 : (k : Int) < n := by omega
      go_wp2
      go_round
      case rel => exact ⟨k + 1, by omega, by go_num, rfl⟩
      case measure => simp [intOf]; omega
    · have hkk : k = n := by omega
      subst hkk
      go_wp2
      go_loop [6, 33] (fun s i => ∃ j : Nat, j ≤ k ∧ i = .int .i64 j ∧ s = .float .f64 (psum (sqr f k) j)) (fun _ i => k - (intOf i).toNat)
      case atStart => exact ⟨0, Nat.zero_le _, rfl, rfl⟩
      case round =>
        obtain ⟨j, hj, rfl, rfl⟩ := hrel
        by_cases hjn : j < k
        · have c1 := HC.out j hjn
          have hs := fun ty W => run_float_arith (P := Try.prog) W .sub ty .f64 _ _ _ (M.out.sub2 j hjn)
          have hm := fun ty W => run_float_arith (P := Try.prog) W .mul ty .f64 _ _ _ (M.out.mul2 j hjn)
          have ha := fun ty W => run_float_arith (P := Try.prog) W .add ty .f64 _ _ _ (M.out.add2 j hjn)
          have l3 : (j : Int) < k := by omega
          go_wp2
          go_round
          case rel => exact ⟨j + 1, by omega, by go_num, rfl⟩
          case measure => simp [intOf]; omega
        · have hjj : j = k := by omega
          subst hjj
          go_wp2
          go_ret3
          exact ⟨rfl, rfl⟩

set_option maxRecDepth 100000 in
set_option maxHeartbeats 2000000 in
theorem refMean_ok (A : Option Addr) (n c : Nat) (f : Nat → Nat) (w : World) (h : ListIn w A n f) (hl : listB n f = true) :
    Calls Try.prog 51 #[.slice A n c] w fun e w' => e = .returned (.tuple #[.float .f64 (mean f n), .float .f64 (vari f n), .int .i64 0]) ∧ w = w' := by
  have CL := Lib.hid (values_any A n c f w h)
  rw [hl] at CL
  obtain ⟨h1, h2, _⟩ := listB_parts hl
  have M := Lib.hid (meanOk h1 h2 (vals_fin h.wf hl))
  obtain ⟨b, off, rfl, _, hc⟩ := h.row (by omega)
  have HC := Lib.hid hc
  have hq1 := fun ty W => run_float_arith (P := Try.prog) W .quo ty .f64 _ _ _ M.out.quo1
  have hq2 := fun ty W => run_float_arith (P := Try.prog) W .quo ty .f64 _ _ _ M.out.quo2
  clear h hl hc
  go_enter Try.func51, Try.ntmps51
  go_wp2_with (go_at_call 78; refine CL.out.mono ?_; rintro e w' ⟨rfl, rfl⟩)
  go_loop [5, 6] (fun s i => ∃ k : Nat, k ≤ n ∧ i = .int .i64 k ∧ s = .float .f64 (psum f k)) (fun _ i => n - (intOf i).toNat)
  case atStart => exact ⟨0, Nat.zero_le _, rfl, rfl⟩
  case round =>
    obtain ⟨k, hk, rfl, rfl⟩ := hrel
    by_cases hkn : k < n
    · have c1 := HC.out k hkn
      have ha := fun ty W => run_float_arith (P := Try.prog) W .add ty .f64 _ _ _ (M.out.add1 k hkn)
      have l3 : (k : Int) < n := by omega
      go_wp2
      go_round
      case rel => exact ⟨k + 1, by omega, by go_num, rfl⟩
      case measure => simp [intOf]; omega
    · have hkk : k = n := by omega
      subst hkk
      go_wp2
      go_loop [8, 9] (fun s i => ∃ j : Nat, j ≤ k ∧ i = .int .i64 j ∧ s = .float .f64 (psum (sqr f k) j)) (fun _ i => k - (intOf i).toNat)
      case atStart => exact ⟨0, Nat.zero_le _, rfl, rfl⟩
      case round =>
        obtain ⟨j, hj, rfl, rfl⟩ := hrel
        by_cases hjn : j < k
        · have c1 := HC.out j hjn
          have hs := fun ty W => run_float_arith (P := Try.prog) W .sub ty .f64 _ _ _ (M.out.sub2 j hjn)
          have hm := fun ty W => run_float_arith (P := Try.prog) W .mul ty .f64 _ _ _ (M.out.mul2 j hjn)
          have ha := fun ty W => run_float_arith (P := Try.prog) W .add ty .f64 _ _ _ (M.out.add2 j hjn)
          have l3 : (j : Int) < k := by omega
          go_wp2
          go_round
          case rel => exact ⟨j + 1, by omega, by go_num, rfl⟩
          case measure => simp [intOf]; omega
        · have hjj : j = k := by omega
          subst hjj
          go_wp2
          go_ret3
          exact ⟨rfl, rfl⟩
end Go.Proofs.Ytcgoicijbmhmpaa
