/-
  The program's grid; the law on grids.
-/
import Derived.Test.YtcgoicijbmhmpaaE7
import Derived.BigQuiet
namespace Go.Proofs.Ytcgoicijbmhmpaa
open Go.RowKit Go.Fl Go.Deep

set_option maxRecDepth 100000 in
set_option maxHeartbeats 2000000 in
theorem Collect_any (s Bs : Nat) (w : World) (h1 : 1 ≤ s) (h2 : s ≤ 1000) (hBs : w.cell? ⟨Bs, 0, none⟩ = some (.int .i64 (s : Nat))) :
    Calls Try.prog 82 #[.func (.func 89) #[] #[.pointer (some ⟨Bs, 0, none⟩)]] w fun e w' => (∃ G c, e = .returned (.slice G (s + 1) c) ∧ RowF w' G (s + 1) (pt s)) ∧ Below w.heap.size w w' := by
  have HA := Lib.hid (callsIn_wide.1 (append_in s Bs w h1 h2 hBs))
  clear hBs
  go_enter Try.func82, Try.ntmps82
  go_wp2_with fail
  refine HA.out.mono ?_
  rintro e w1 ⟨⟨G, c, rfl, hR⟩, hb⟩
  have HR := Lib.hid hR
  clear hR
  go_wp2
  go_ret
  exact ⟨⟨G, c, rfl, HR.out⟩, hb⟩

set_option maxRecDepth 100000 in
set_option maxHeartbeats 2000000 in
theorem Grid_ok (s : Nat) (h1 : 1 ≤ s) (h2 : s ≤ 1000) (w : World) : Calls Try.prog 55 #[.int .i64 (s : Nat)] w (Gives w (s + 1) (pt s)) := by
  have es : stepsB (s : Nat) = true := by unfold stepsB; simp; omega
  have CC := Lib.hid (fun Bs W hBs => Collect_any s Bs W h1 h2 hBs)
  have CS := Lib.hid (isSteps_any (s : Nat) w)
  have CP := Lib.hid (points_any (s : Nat) w)
  rw [es] at CS
  clear es
  go_enter Try.func55, Try.ntmps55
  go_wp2_with fail
  refine CS.out.mono ?_
  rintro e w1 ⟨rfl, rfl⟩
  go_wp2_with fail
  refine CP.out.mono ?_
  rintro e w1 ⟨rfl, rfl⟩
  go_wp2_with fail
  refine (CC.out _ _ (by simp [go_sem])).mono ?_
  rintro e w2 ⟨⟨G, c, rfl, hR⟩, hb⟩
  have HR := Lib.hid hR
  clear hR
  have HB := Lib.hid (((Below.refl _ w).alloc (Nat.le_refl _) _).trans (hb.mono (by simp)))
  clear hb
  go_wp2
  go_ret2
  exact ⟨⟨G, c, rfl, HR.out⟩, HB.out⟩

set_option maxRecDepth 100000 in
set_option maxHeartbeats 2000000 in
theorem Grid_bad (s : Int) (h : stepsB s = false) (w : World) : Calls Try.prog 55 #[.int .i64 s] w fun e w' => e = .returned (.tuple #[.slice none 0 0, .int .i64 2]) ∧ w = w' := by
  have CS := Lib.hid (isSteps_any s w)
  rw [h] at CS
  clear h
  go_enter Try.func55, Try.ntmps55
  go_wp2_with fail
  refine CS.out.mono ?_
  rintro e w1 ⟨rfl, rfl⟩
  go_wp2
  go_ret2
  exact ⟨rfl, rfl⟩


set_option maxRecDepth 100000 in
set_option maxHeartbeats 2000000 in
theorem critGrids_walk (s : Int) (w : World) : Calls Try.prog 20 #[.int .i64 s] w fun e w' => e = .returned (.bool true) ∧ Below w.heap.size w w' := by
  cases hs : stepsB s with
  | false =>
    have C1 := Lib.hid (Grid_bad s hs w)
    have C2 := Lib.hid (refGrid_bad s hs w)
    clear hs
    go_enter Try.func20, Try.ntmps20
    go_wp2_with fail
    refine C1.out.mono ?_
    rintro e w1 ⟨rfl, rfl⟩
    go_wp2_with fail
    refine C2.out.mono ?_
    rintro e w1 ⟨rfl, rfl⟩
    go_wp2_with fail
    go_loopw [7] (fun i wr => i = .int .i64 0 ∧ w = wr) (fun _ _ => 0)
    case atStart => exact ⟨rfl, rfl⟩
    case round =>
      obtain ⟨rfl, rfl⟩ := hrel
      go_wp2_with (go_at_call 45; refine (works32_any _).mono ?_; rintro e w1 ⟨rfl, hb1⟩)
      go_ret
      exact ⟨rfl, hb1⟩
  | true =>
    obtain ⟨h1, h2⟩ : 1 ≤ s ∧ s ≤ 1000 := by
      unfold stepsB at hs
      rw [Bool.and_eq_true, decide_eq_true_iff, decide_eq_true_iff] at hs
      exact hs
    obtain ⟨k, rfl⟩ : ∃ k : Nat, s = (k : Nat) := ⟨s.toNat, by omega⟩
    have h1' : 1 ≤ k := by omega
    have h2' : k ≤ 1000 := by omega
    have C1 := Lib.hid (Grid_ok k h1' h2' w)
    have C2 := Lib.hid (fun W => refGrid_ok k h1' h2' W)
    have HF := Lib.hid (fun x => feq_self (pt_fin (s := k) (x := x) h1' h2'))
    clear hs h1 h2
    go_enter Try.func20, Try.ntmps20
    go_wp2_with fail
    refine C1.out.mono ?_
    rintro e w1 ⟨⟨A, c, rfl, hr1⟩, hb1⟩
    obtain ⟨a, o, rfl, ha, hc⟩ := hr1 (by omega)
    have HC1 := Lib.hid hc
    clear hc hr1 C1
    go_wp2_with fail
    refine (C2.out _).mono ?_
    rintro e w2 ⟨⟨B, d, rfl, hr2⟩, hb2⟩
    obtain ⟨b, o2, rfl, hb, hc⟩ := hr2 (by omega)
    have HC2 := Lib.hid hc
    have HB := Lib.hid (hb1.trans (hb2.mono hb1.size))
    have HB2 := Lib.hid hb2
    clear hc hr2 C2 hb1 hb2
    go_wp2_with fail
    go_loopw [7] (fun i wr => ∃ j : Nat, j ≤ k + 1 ∧ i = .int .i64 j ∧ Below w2.heap.size w2 wr) (fun i _ => k + 2 - (intOf i).toNat)
    case atStart => exact ⟨0, Nat.zero_le _, rfl, Below.refl _ _⟩
    case round =>
      obtain ⟨j, hj, rfl, hbel⟩ := hrel
      by_cases hjk : j < k + 1
      · have c1 : wr.cell? ⟨a, o + j, none⟩ = some (.float .f64 (pt k j)) := (hbel.cell (p := ⟨a, o + j, none⟩) (Nat.lt_of_lt_of_le ha HB2.out.size)).trans ((HB2.out.cell (p := ⟨a, o + j, none⟩) ha).trans (HC1.out j hjk))
        have c2 : wr.cell? ⟨b, o2 + j, none⟩ = some (.float .f64 (pt k j)) := (hbel.cell (p := ⟨b, o2 + j, none⟩) hb).trans (HC2.out j hjk)
        have l1 : (j : Int) < (k : Int) + 1 := by omega
        have o1 := HF.out j
        have o2 : (FloatKind.f64.format.order (pt k j) (pt k j) != some Ordering.eq) = false := by rw [bne, o1]; rfl
        have HBl := Lib.hid hbel
        clear hbel
        go_wp2
        go_quiet (fail)
        go_wp2
        go_roundw
        case rel => exact ⟨j + 1, by omega, by go_num, HBl.out.trans (Drawn.below ⟨nq, rfl⟩ _)⟩
        case measure => simp [intOf]; omega
      · obtain rfl : j = k + 1 := by omega
        go_wp2_with (go_at_call 45; refine (works32_any _).mono ?_; rintro e w1 ⟨rfl, hb1⟩)
        go_ret
        exact ⟨rfl, (HB.out.trans (hbel.mono HB.out.size)).trans (hb1.mono (Nat.le_trans HB.out.size hbel.size))⟩

theorem pt_one_all : (List.range 1000).all (fun s => pt (s + 1) (s + 1) == one) = true := by decide +kernel
theorem pt_one {s : Nat} (h1 : 1 ≤ s) (h2 : s ≤ 1000) : pt s s = one := by
  have h := List.all_eq_true.1 pt_one_all (s - 1) (List.mem_range.2 (by omega))
  rw [show s - 1 + 1 = s by omega] at h
  exact eq_of_beq h
theorem eta_eps : eta ≤ eps := two_mono (by decide)
theorem eps_small : 1000000 * eps ≤ 1 := by have := eps_val; have := eps_pos; grind
theorem pt_step {s k : Nat} (h1 : 1 ≤ s) (h2 : s ≤ 1000) (hk : k < s) : fv (pt s k) < fv (pt s (k + 1)) := by
  obtain ⟨_, _, a⟩ := pt_val h1 h2 (show k ≤ s by omega)
  obtain ⟨_, _, b⟩ := pt_val h1 h2 (show k + 1 ≤ s by omega)
  have hs : (1 : Rat) ≤ (s : Rat) := by have := Rat.natCast_le_natCast.2 h1; simpa using this
  have hs2 : (s : Rat) ≤ 1000 := Rat.natCast_le_natCast.2 h2
  have hx0 : (0 : Rat) ≤ (k : Rat) := Rat.natCast_nonneg
  have hxs : ((k + 1 : Nat) : Rat) ≤ (s : Rat) := Rat.natCast_le_natCast.2 hk
  have hx1 : ((k + 1 : Nat) : Rat) = (k : Rat) + 1 := by rw [Rat.natCast_add]; rfl
  have q0 : 0 ≤ (k : Rat) / (s : Rat) := div_nonneg hx0 (by grind)
  have q1 : ((k + 1 : Nat) : Rat) / (s : Rat) ≤ 1 := div_le_of (by grind) (by grind)
  have e0 : (k : Rat) / (s : Rat) * (s : Rat) = k := Rat.div_mul_cancel (by grind)
  have e1 : ((k + 1 : Nat) : Rat) / (s : Rat) * (s : Rat) = ((k + 1 : Nat) : Rat) := Rat.div_mul_cancel (by grind)
  rw [hx1] at e1 q1
  rw [hx1] at b
  generalize (k : Rat) / (s : Rat) = x at *
  generalize ((k : Rat) + 1) / (s : Rat) = y at *
  have hd : (y - x) * (s : Rat) = 1 := by
    have h5 : (y - x) * (s : Rat) = y * s - x * s := by grind
    rw [h5, e0, e1]; grind
  have hyx : 0 < y - x := by
    refine Rat.not_le.1 fun h => ?_
    have := Rat.mul_le_mul_of_nonneg_right h (show (0 : Rat) ≤ s by grind)
    grind
  have hd2 : (y - x) * (s : Rat) ≤ (y - x) * 1000 := Rat.mul_le_mul_of_nonneg_left hs2 (Rat.le_of_lt hyx)
  have r0 := Rel.of_rnd a q0
  have r1 := Rel.of_rnd b (show 0 ≤ y by grind)
  unfold Rel at r0 r1
  have b0 : eps * x ≤ eps * 1 := Rat.mul_le_mul_of_nonneg_left (show x ≤ 1 by grind) (Rat.le_of_lt eps_pos)
  have b1 : eps * y ≤ eps * 1 := Rat.mul_le_mul_of_nonneg_left q1 (Rat.le_of_lt eps_pos)
  have h3 := eta_eps
  have h4 := eps_small
  grind
theorem pt_leq {s k : Nat} (h1 : 1 ≤ s) (h2 : s ≤ 1000) (hk : k < s) : fle (pt s (k + 1)) (pt s k) = false := by
  rw [Bool.eq_false_iff]
  intro h
  have := (fle_iff (pt_fin h1 h2) (pt_fin h1 h2)).1 h
  have := pt_step h1 h2 hk
  grind
end Go.Proofs.Ytcgoicijbmhmpaa
