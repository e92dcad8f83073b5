/-
  The walk of the law on one more trial.
-/
import Derived.Test.YtcgoicijbmhmpaaD2
namespace Go.Proofs.Ytcgoicijbmhmpaa
open Go.RowKit Go.Fl Go.Deep

set_option maxRecDepth 100000 in
set_option maxHeartbeats 2000000 in
theorem canonRecurs_walk (m p : Nat) (w : World) (hm : m ≤ 65535) (hp : p ≤ 65535) :
    Calls Try.prog 8 #[.int .u16 m, .int .u16 p] w fun e w' => e = .returned (.bool true) ∧ Below w.heap.size w w' := by
  obtain ⟨n, hn⟩ : ∃ n, n = m % 1001 := ⟨_, rfl⟩
  obtain ⟨k, hk⟩ : ∃ k, k = p % 1025 := ⟨_, rfl⟩
  have hn1 : n ≤ 1000 := by omega
  have hk1 : k ≤ 1024 := by omega
  have en : ((m : Int) % 1001) = (n : Int) := by omega
  have CH := Lib.hid (fun W => chance_c p hp W)
  rw [← hk] at CH
  have okA := ok_abs (m := n) (by omega) (ch_lt hk1) (ch_prob hk1)
  have okB := ok_abs (m := n + 1) (by omega) (ch_lt hk1) (ch_prob hk1)
  have CA := Lib.hid (fun W => Weights_ok n (ch k) W (by omega) (ch_lt hk1) (ch_prob hk1))
  have CB := Lib.hid (fun W => Weights_ok (n + 1) (ch k) W (by omega) (ch_lt hk1) (ch_prob hk1))
  rw [show ((n + 1 : Nat) : Int) = (n : Int) + 1 by omega] at CB
  obtain ⟨c1, c2, c3⟩ := co_ok hk1
  have hr := (ch_range hk1).1
  have e0 : absb (ch k) = ch k := by
    rcases Nat.lt_or_ge (ch k) (2 ^ 63) with h | h
    · unfold absb; omega
    · rcases Nat.eq_zero_or_pos k with h0 | h0
      · exfalso
        have : (ch 0 : Nat) = 0 := by decide +kernel
        rw [h0, this] at h; omega
      · have h1 := (ch_ok hk1).2.2
        have h2 : (0 : Rat) < (k : Rat) := Rat.natCast_pos.2 h0
        exact abs_of_pos (ch_ok hk1).2.1 (by rw [h1]; grind)
  rw [e0] at okA okB CA CB
  have HR := Lib.hid (fun (j : Nat) (hj : j ≤ n + 1) => rec_ok okA okB (by omega) c1 c2 (by rw [c3, ← (ch_ok hk1).2.2]) hj)
  have hsub := fun ty W => run_float_arith (P := Try.prog) W .sub ty .f64 _ _ _ c1
  clear okA okB hk c1 c2 c3 hr e0 hn
  generalize ch k = q1 at *
  unfold one at hsub
  go_enter Try.func8, Try.ntmps8
  go_wp2_with (go_at_call 38; refine (CH.out _).mono ?_; rintro e w' ⟨rfl, rfl⟩)
  refine (CA.out _).mono ?_
  rintro e w1 ⟨rfl, hrow1, hb1⟩
  have R1 := Lib.hid hrow1
  clear hrow1
  go_wp2_with fail
  refine (CB.out _).mono ?_
  rintro e w2 ⟨rfl, hrow2, hb2⟩
  have R2 := Lib.hid hrow2
  have C1 := Lib.hid (fun (j : Nat) (hj : j < n + 1) => (hb2.cell (p := ⟨w.heap.size, j, none⟩) R1.out.lt).trans (R1.out.cell hj))
  have hne : ((n : Int) + 1 + 1 != (n : Int) + 2) = false := by rw [bne_eq_false_iff_eq]; omega
  clear hrow2 en
  go_wp2
  clear hne
  go_loop [53] (fun i => ∃ j : Nat, j ≤ n + 2 ∧ i = .int .i64 j) (fun i => n + 2 - (intOf i).toNat)
  case atStart => exact ⟨0, Nat.zero_le _, rfl⟩
  case round =>
    obtain ⟨j, hj, rfl⟩ := hrel
    by_cases hjn : j < n + 2
    · have R := HR.out j (by omega)
      have d2 : w2.cell? ⟨w1.heap.size, j, none⟩ = some (.float .f64 (wt (n + 1) q1 j)) := R2.out.cell (show j < n + 1 + 1 by omega)
      have CN := Lib.hid (fun W => near_c (wt (n + 1) q1 j) (wantB n q1 j) one W R.near.1 R.near.2.1 R.near.2.2)
      unfold one at CN
      have l1 : (j : Int) < (n : Int) + 2 := by omega
      have l1' : (j : Int) < (n : Int) + 1 + 1 := by omega
      by_cases ha : j ≤ n
      · have d1 : w2.cell? ⟨w.heap.size, j, none⟩ = some (.float .f64 (wt n q1 j)) := C1.out j (by omega)
        have m1 := fun ty W => run_float_arith (P := Try.prog) W .mul ty .f64 _ _ _ (R.mul1 ha)
        have a1 := fun ty W => run_float_arith (P := Try.prog) W .add ty .f64 _ _ _ (R.add1 ha)
        unfold one at m1 a1
        have l2 : (j : Int) ≤ (n : Int) := by omega
        have l3 : (j : Int) < (n : Int) + 1 := by omega
        by_cases hb : 0 < j
        · have d3 : w2.cell? ⟨w.heap.size, j - 1, none⟩ = some (.float .f64 (wt n q1 (j - 1))) := C1.out (j - 1) (by omega)
          have m2 := fun ty W => run_float_arith (P := Try.prog) W .mul ty .f64 _ _ _ (R.mul2 hb)
          have a2 := fun ty W => run_float_arith (P := Try.prog) W .add ty .f64 _ _ _ (R.add2 hb)
          have l4 : (0 : Int) < (j : Int) := by omega
          have q4 : IntKind.i64.wrap ((j : Int) - 1) = (j : Int) - 1 := IntWalk.i64_in _ (by omega)
          have q5 : (0 : Int) ≤ (j : Int) - 1 := by omega
          have q6 : (1 : Int) ≤ (j : Int) := by omega
          have q7 : ((j : Int) - 1).toNat = j - 1 := by omega
          have q8 : (j : Int) - 1 < (n : Int) + 1 := by omega
          clear R
          go_wp2_with (go_at_call 39; refine (CN.out _).mono ?_; rintro e w' ⟨rfl, rfl⟩)
          go_round
          case rel => first | exact ⟨j + 1, by omega, by go_num⟩ | trivial
          case measure => simp [intOf]; omega
        · have h0 : j = 0 := by omega
          have hw : wantB n q1 j = wantA n q1 j := by unfold wantB; rw [if_neg hb]
          rw [hw] at CN
          have l4 : ¬ (0 : Int) < (j : Int) := by omega
          clear R hw h0
          go_wp2_with (go_at_call 39; refine (CN.out _).mono ?_; rintro e w' ⟨rfl, rfl⟩)
          go_round
          case rel => first | exact ⟨j + 1, by omega, by go_num⟩ | trivial
          case measure => simp [intOf]; omega
      · have hb : 0 < j := by omega
        have l2 : ¬ (j : Int) ≤ (n : Int) := by omega
        have d3 : w2.cell? ⟨w.heap.size, j - 1, none⟩ = some (.float .f64 (wt n q1 (j - 1))) := C1.out (j - 1) (by omega)
        have m2 := fun ty W => run_float_arith (P := Try.prog) W .mul ty .f64 _ _ _ (R.mul2 hb)
        have hA : wantA n q1 j = 0 := by unfold wantA; rw [if_neg ha]
        have hadd := R.add2 hb
        rw [hA] at hadd
        have a2 := fun ty W => run_float_arith (P := Try.prog) W .add ty .f64 _ _ _ hadd
        have l4 : (0 : Int) < (j : Int) := by omega
        have q4 : IntKind.i64.wrap ((j : Int) - 1) = (j : Int) - 1 := IntWalk.i64_in _ (by omega)
        have q5 : (0 : Int) ≤ (j : Int) - 1 := by omega
        have q6 : (1 : Int) ≤ (j : Int) := by omega
        have q7 : ((j : Int) - 1).toNat = j - 1 := by omega
        have q8 : (j : Int) - 1 < (n : Int) + 1 := by omega
        clear R hA hadd
        go_wp2_with (go_at_call 39; refine (CN.out _).mono ?_; rintro e w' ⟨rfl, rfl⟩)
        go_round
        case rel => first | exact ⟨j + 1, by omega, by go_num⟩ | trivial
        case measure => simp [intOf]; omega
    · have hjj : j = n + 2 := by omega
      have l1 : ¬ (j : Int) < (n : Int) + 2 := by omega
      have l1' : ¬ (j : Int) < (n : Int) + 1 + 1 := by omega
      go_wp2_with (go_at_call 27; refine (works_any _).mono ?_; rintro e w4 ⟨rfl, hb4⟩)
      go_ret
      exact ⟨rfl, (hb1.trans (hb2.mono hb1.size)).trans (hb4.mono (Nat.le_trans hb1.size hb2.size))⟩

theorem canonSums_walkI (m p : Int) (w : World) (h1 : 0 ≤ m) (h2 : m ≤ 65535) (h3 : 0 ≤ p) (h4 : p ≤ 65535) :
    Calls Try.prog 7 #[.int .u16 m, .int .u16 p] w fun e w' => e = .returned (.bool true) ∧ Below w.heap.size w w' := by
  obtain ⟨m, rfl⟩ := Int.eq_ofNat_of_zero_le h1
  obtain ⟨p, rfl⟩ := Int.eq_ofNat_of_zero_le h3
  exact canonSums_walk m p w (by omega) (by omega)
theorem canonRecurs_walkI (m p : Int) (w : World) (h1 : 0 ≤ m) (h2 : m ≤ 65535) (h3 : 0 ≤ p) (h4 : p ≤ 65535) :
    Calls Try.prog 8 #[.int .u16 m, .int .u16 p] w fun e w' => e = .returned (.bool true) ∧ Below w.heap.size w w' := by
  obtain ⟨m, rfl⟩ := Int.eq_ofNat_of_zero_le h1
  obtain ⟨p, rfl⟩ := Int.eq_ofNat_of_zero_le h3
  exact canonRecurs_walk m p w (by omega) (by omega)
end Go.Proofs.Ytcgoicijbmhmpaa
