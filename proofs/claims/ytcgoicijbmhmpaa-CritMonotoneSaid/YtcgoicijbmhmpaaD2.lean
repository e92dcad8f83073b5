/-
  The walks of the laws on sums of weights and on one more trial.
-/
import Derived.Test.YtcgoicijbmhmpaaD1
import Derived.Test.YtcgoicijbmhmpaaB7
namespace Go.Proofs.Ytcgoicijbmhmpaa
open Go.RowKit Go.Fl Go.Deep

theorem ch_lt {k : Nat} (h : k ≤ 1024) : ch k < 2 ^ 64 := by have := (ch_ok h).2.1; unfold isFin at this; omega
theorem co_lt {k : Nat} (h : k ≤ 1024) : fsub one (ch k) < 2 ^ 64 := by have := (co_ok h).2.1; unfold isFin at this; omega
theorem fv_abs_pos {p : Nat} (h : isFin p) (h0 : 0 ≤ fv p) : fv (absb p) = fv p := by rw [fv_abs h, Rat.abs_of_nonneg h0]
theorem fv_ch {k : Nat} (h : k ≤ 1024) : fv (absb (ch k)) = fv (ch k) := fv_abs_pos (ch_ok h).2.1 (ch_range h).1
theorem fv_co {k : Nat} (h : k ≤ 1024) : fv (absb (fsub one (ch k))) = 1 - fv (ch k) := by
  obtain ⟨_, a, b⟩ := co_ok h
  have := (ch_range h).2
  rw [fv_abs_pos a (by rw [b, ← (ch_ok h).2.2]; grind), b, (ch_ok h).2.2]

theorem flt_word {x : Nat} (h : isFin x) : x < 2 ^ 64 := h.1

set_option maxRecDepth 100000 in
set_option maxHeartbeats 2000000 in
theorem canonSums_walk (m p : Nat) (w : World) (hm : m ≤ 65535) (hp : p ≤ 65535) :
    Calls Try.prog 7 #[.int .u16 m, .int .u16 p] w fun e w' => e = .returned (.bool true) ∧ Below w.heap.size w w' := by
  obtain ⟨n, hn⟩ : ∃ n, n = m % 2001 := ⟨_, rfl⟩
  obtain ⟨k, hk⟩ : ∃ k, k = p % 1025 := ⟨_, rfl⟩
  have hn1 : n ≤ 2000 := by omega
  have hk1 : k ≤ 1024 := by omega
  have en : ((m : Int) % 2001) = (n : Int) := by omega
  have CH := Lib.hid (fun W => chance_c p hp W)
  rw [← hk] at CH
  have okA := ok_abs (m := n) (by omega) (ch_lt hk1) (ch_prob hk1)
  have okB := ok_abs (m := n) (by omega) (co_lt hk1) (co_prob hk1)
  have hq : fv (absb (fsub one (ch k))) = 1 - fv (absb (ch k)) := by rw [fv_co hk1, fv_ch hk1]
  have CA := Lib.hid (fun W => Weights_ok n (ch k) W (by omega) (ch_lt hk1) (ch_prob hk1))
  have CB := Lib.hid (fun W => Weights_ok n (fsub one (ch k)) W (by omega) (co_lt hk1) (co_prob hk1))
  have hsub := fun ty W => run_float_arith (P := Try.prog) W .sub ty .f64 _ _ _ (co_ok hk1).1
  have HN := Lib.hid (fun (j : Nat) (hj : j ≤ n) => (wt_back okA okB hq (by omega) hj))
  have HO := Lib.hid okA
  have HP := Lib.hid okB
  have HS := Lib.hid (wsum_near okA (by omega))
  clear okA okB hq hk
  generalize fsub one (ch k) = q2 at *
  generalize ch k = q1 at *

  clear hn
  unfold one at hsub

  go_enter Try.func7, Try.ntmps7
  go_wp2_with (go_at_call 38; refine (CH.out _).mono ?_; rintro e w' ⟨rfl, rfl⟩)
  refine (CA.out _).mono ?_
  rintro e w1 ⟨rfl, hrow1, hb1⟩
  have R1 := Lib.hid hrow1
  clear hrow1
  go_wp2_with (go_at_call 38; refine (CH.out _).mono ?_; rintro e w' ⟨rfl, rfl⟩)
  refine (CB.out _).mono ?_
  rintro e w2 ⟨rfl, hrow2, hb2⟩
  have R2 := Lib.hid hrow2
  have C1 := Lib.hid (fun (j : Nat) (hj : j < n + 1) => (hb2.cell (p := ⟨w.heap.size, j, none⟩) R1.out.lt).trans (R1.out.cell hj))
  clear hrow2 en
  go_wp2
  go_loopw [10, 52] (fun s i wr => ∃ j : Nat, j ≤ n + 1 ∧ i = .int .i64 j ∧ s = .float .f64 (psum (wt n (absb q1)) j) ∧ Drawn w2 wr) (fun _ i _ => n + 1 - (intOf i).toNat)
  case atStart => exact ⟨0, Nat.zero_le _, rfl, rfl, 0, rfl⟩
  case round =>
    obtain ⟨j, hj, rfl, rfl, hd⟩ := hrel
    by_cases hjn : j < n + 1
    · have d1 : wr.cell? ⟨w.heap.size, j, none⟩ = some (.float .f64 (wt n (absb q1) j)) := (hd.cell ⟨w.heap.size, j, none⟩).trans (C1.out j hjn)
      have d2 : wr.cell? ⟨w1.heap.size, n - j, none⟩ = some (.float .f64 (wt n (absb q2) (n - j))) := (hd.cell ⟨w1.heap.size, n - j, none⟩).trans (R2.out.cell (show n - j < n + 1 by omega))
      obtain ⟨_, x1, x2, x3, _⟩ := wt_ok HO.out (k := j) (by omega)
      obtain ⟨_, y1, y2, y3, _⟩ := wt_ok HP.out (k := n - j) (by omega)
      obtain ⟨z1, z2⟩ := HN.out j (by omega)
      have hnear := near_one x1 y1 x2 (one_two x3) y2 (one_two y3) (by grind) (by grind)
      have g1 : (FloatKind.f64.format.order (wt n (absb q1) j) 0 == some Ordering.gt || FloatKind.f64.format.order (wt n (absb q1) j) 0 == some Ordering.eq) = true := (fge_iff x1 isFin_zero).2 (by rw [fv_zero]; exact x2)
      have g2 : (FloatKind.f64.format.order (wt n (absb q1) j) 4607182418800017408 == some Ordering.lt || FloatKind.f64.format.order (wt n (absb q1) j) 4607182418800017408 == some Ordering.eq) = true := (fle_iff x1 isFin_one).2 (by rw [fv_one]; exact x3)
      have CN := Lib.hid (fun W => near_c (wt n (absb q1) j) (wt n (absb q2) (n - j)) one W hnear.1 hnear.2.1 hnear.2.2)
      have ha := fun ty W => run_float_arith (P := Try.prog) W .add ty .f64 _ _ _ ((psum_ok (n := n + 1) (by omega) (wt_all HO.out) j (by omega)).2.2.2 hjn).1
      clear hnear x1 x2 x3 y1 y2 y3 z1 z2
      unfold one at CN
      have l1 : (j : Int) < (n : Int) + 1 := by omega
      have l2 : (n : Int) - (j : Int) < (n : Int) + 1 := by omega
      have q5 : IntKind.i64.wrap ((n : Int) - (j : Int)) = (n : Int) - (j : Int) := IntWalk.i64_in _ (by omega)
      have q6 : (0 : Int) ≤ (n : Int) - (j : Int) := by omega
      have q7 : ((n : Int) - (j : Int)).toNat = n - j := by omega
      go_wp2
      go_big_quiet ((go_at_call 39; exact Calls.quiet_of_same ((CN.out _).mono fun e w' h => ⟨h.1, h.2.symm⟩)))
      go_wp2
      go_roundw
      case rel => exact ⟨j + 1, by omega, by go_num, rfl, hd.drewN _⟩
      case measure => simp [intOf]; omega
    · have hjj : j = n + 1 := by omega
      have l1 : ¬ (j : Int) < (n : Int) + 1 := by omega
      obtain ⟨s1, s2, s3, s4⟩ := HS.out
      have hnear := near_one s1 isFin_one s2 (by grind) (by rw [fv_one]; grind) (by rw [fv_one]; grind) (by rw [fv_one]; grind) (by rw [fv_one]; grind)
      have CN := Lib.hid (fun W => near_c (psum (wt n (absb q1)) (n + 1)) one one W hnear.1 hnear.2.1 hnear.2.2)
      clear hnear s1 s2 s3 s4
      unfold one at CN
      rw [← hjj] at CN
      clear hjj
      go_wp2_with (first | (go_at_call 39; refine (CN.out _).mono ?_; rintro e w' ⟨rfl, rfl⟩) | (go_at_call 27; refine (works_any _).mono ?_; rintro e w4 ⟨rfl, hb4⟩))
      go_ret
      exact ⟨rfl, ((hb1.trans (hb2.mono hb1.size)).trans (hd.below _)).trans (hb4.mono (by rw [hd.size]; exact Nat.le_trans hb1.size hb2.size))⟩
end Go.Proofs.Ytcgoicijbmhmpaa
