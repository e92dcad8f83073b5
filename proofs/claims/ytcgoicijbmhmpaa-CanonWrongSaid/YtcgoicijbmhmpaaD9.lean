/-
  The walk of the law on values on a line.
-/
import Derived.Test.YtcgoicijbmhmpaaD8
namespace Go.Proofs.Ytcgoicijbmhmpaa
open Go.RowKit Go.Fl Go.Deep
attribute [local go_sem] run_store_float

theorem OwnG.of_row {W : World} {g n : Nat} {f : Nat → Nat} (h : W.rowIs g 22 n (fl f)) : OwnG W g n f := ⟨n, fl f, Nat.le_refl _, h, fun _ _ => rfl⟩
theorem made_own (W : World) (n : Nat) : OwnG (W.alloc (.cells (madeCells #[.float .f64 0] n) 22)) W.heap.size n (fun _ => 0) := .of_row (World.rowIs_made W (.float .f64 0) n 22)

set_option maxRecDepth 100000 in
set_option maxHeartbeats 4000000 in
theorem canonLines_walk (m p c : Nat) (w : World) (hm : m ≤ 65535) (hp : p ≤ 65535) (hc : c ≤ 65535) :
    Calls Try.prog 11 #[.int .u16 m, .int .u16 p, .int .u16 c] w fun e w' => e = .returned (.bool true) ∧ Below w.heap.size w w' := by
  obtain ⟨n, hn⟩ : ∃ n, n = m % 2000 := ⟨_, rfl⟩
  obtain ⟨C, hC⟩ : ∃ C, C = c % 1001 := ⟨_, rfl⟩
  obtain ⟨k, hk⟩ : ∃ k, k = p % 1025 := ⟨_, rfl⟩
  have hn1 : n ≤ 1999 := by omega
  have hC1 : C ≤ 1000 := by omega
  have hk1 : k ≤ 1024 := by omega
  have en : ((m : Int) % 2000) = (n : Int) := by omega
  have ec : ((c : Int) % 1001) = (C : Int) := by omega
  have CH := Lib.hid (fun W => chance_c p hp W)
  rw [← hk] at CH
  have HW := Lib.hid (line_whole hC1 hn1)
  have HT := Lib.hid (Rat.le_trans (top_le hC1 hn1) M20)
  have HK := Lib.hid (ok_abs (m := n) (by omega) (ch_lt hk1) (ch_prob hk1))
  have HK2 := Lib.hid (ok_abs (m := n - 1) (by omega) (ch_lt hk1) (ch_prob hk1))
  have HL := Lib.hid (ch_lt hk1)
  have HP := Lib.hid (ch_prob hk1)
  have ea : absb (ch k) = ch k := by
    have := (ch_ok hk1).2.2
    rcases Nat.eq_zero_or_pos k with h0 | h0
    · rw [h0]; decide +kernel
    · have h2 : (0 : Rat) < (k : Rat) := Rat.natCast_pos.2 h0
      exact abs_of_pos (ch_ok hk1).2.1 (by rw [this]; grind)
  have HA := Lib.hid ea
  have hmk : ∀ W, (Instr.makeSlice 24 (.int .i64 ((n : Int) + 1)) (.int .i64 ((n : Int) + 1))).run Try.prog W = .ok (.slice (some ⟨W.heap.size, 0, none⟩) (n + 1) (n + 1)) (W.alloc (.cells (madeCells #[.float .f64 0] (n + 1)) 22)) :=
    fun W => by have := run_mk (n + 1) (by omega) W; rw [show ((n + 1 : Nat) : Int) = (n : Int) + 1 by omega] at this; exact this
  clear hn hC hk ea
  go_enter Try.func11, Try.ntmps11
  go_wp2
  clear hmk
  go_loopw [27] (fun i wr => ∃ j : Nat, j ≤ n + 1 ∧ i = .int .i64 j ∧ Hid (OwnG wr w.heap.size (n + 1) (fun q => if q < j then line C q else 0)) ∧ Below w.heap.size w wr) (fun i _ => n + 1 - (intOf i).toNat)
  case atStart => exact ⟨0, Nat.zero_le _, rfl, Lib.hid ((made_own w (n + 1)).congr fun j _ => by rw [if_neg (by omega)]), (Below.refl _ w).alloc (Nat.le_refl _) _⟩
  case round =>
    obtain ⟨j, hj, rfl, hown, hbel⟩ := hrel
    by_cases hjn : j < n + 1
    · have c1 := hown.out.cell hjn
      have c2 := hown.out.frozen j
      have HS := Lib.hid (hown.out.set j (line C j) (f' := fun q => if q < j + 1 then line C q else 0) (fun q _ => by
        by_cases h1 : q = j
        · rw [if_pos h1, if_pos (by omega), h1]
        · rw [if_neg h1]; by_cases h2 : q < j
          · rw [if_pos h2, if_pos (by omega)]
          · rw [if_neg h2, if_neg (by omega)]))
      have hmul := fun ty W => run_float_arith (P := Try.prog) W .mul ty .f64 _ _ _ (show floatBits .mul .f64 (floatOfInt .f64 (C : Int)) (floatOfInt .f64 (j : Int)) = some (line C j) from (line_ok hC1 (show j ≤ 2000 by omega)).1)
      have l6 : (j : Int) < (n : Int) + 1 := by omega
      clear hown
      go_wp2
      go_roundw
      case rel => exact ⟨j + 1, by omega, by go_num, HS, hbel.setCell (p := ⟨w.heap.size, j, none⟩) (Nat.le_refl _) _⟩
      case measure => simp [intOf]; omega
    · have hjj : j = n + 1 := by omega
      have l6 : ¬ (j : Int) < (n : Int) + 1 := by omega
      have O5 := Lib.hid (hown.out.congr (f' := line C) fun q hq => by rw [if_pos (by omega)])
      clear hown hjj
      go_wp2_with (go_at_call 38; refine (CH.out _).mono ?_; rintro e w' ⟨rfl, rfl⟩)
      refine (avg_call w.heap.size (n + 1) (n + 1) (ch k) _ _ HT.out wr HW.out O5.out (by omega) (by omega) HL.out HP.out).mono ?_
      rintro e w5 ⟨rfl, hb5⟩
      have O6 := Lib.hid (O5.out.below hb5 O5.out.lt)
      clear O5
      go_wp2_with (go_at_call 38; refine (CH.out _).mono ?_; rintro e w' ⟨rfl, rfl⟩)
      refine (slope_call w.heap.size (n + 1) (n + 1) (ch k) _ _ HT.out w5 HW.out O6.out (by omega) (by omega) HL.out HP.out).mono ?_
      rintro e w6 ⟨rfl, hb6⟩
      rw [Nat.add_sub_cancel, HA.out]
      have K1 := HK.out
      have K2 := HK2.out
      rw [HA.out] at K1 K2
      obtain ⟨a1, a2, a3, a4⟩ := line_avg hC1 hn1 K1
      obtain ⟨s1, s2, s3⟩ := line_slope hC1 hn1 K2
      have hmul := fun ty W => run_float_arith (P := Try.prog) W .mul ty .f64 _ _ _ (show floatBits .mul .f64 (floatOfInt .f64 (C : Int)) (floatOfInt .f64 (n : Int)) = some (line C n) from (line_ok hC1 (show n ≤ 2000 by omega)).1)
      have hmul2 := fun ty W => run_float_arith (P := Try.prog) W .mul ty .f64 _ _ _ a1
      have CN := Lib.hid (fun W => near_c _ _ _ W a2 a3 a4)
      have CN2 := Lib.hid (fun W => near_c _ _ _ W s1 s2 s3)
      clear a1 a2 a3 a4 s1 s2 s3 O6 K1 K2 HK HK2
      generalize slope (line C) n (ch k) = sl at *
      generalize avg (line C) n (ch k) = av at *
      go_wp2_with (first | (go_at_call 38; refine (CH.out _).mono ?_; rintro e w' ⟨rfl, rfl⟩) | (go_at_call_of 39 (Value.float .f64 av); refine (CN.out _).mono ?_; rintro e w' ⟨rfl, rfl⟩) | (go_at_call_of 39 (Value.float .f64 sl); refine (CN2.out _).mono ?_; rintro e w' ⟨rfl, rfl⟩) | (go_at_call 27; refine (works_any _).mono ?_; rintro e w7 ⟨rfl, hb7⟩))
      go_ret
      exact ⟨rfl, ((hbel.trans (hb5.mono hbel.size)).trans (hb6.mono (Nat.le_trans hbel.size hb5.size))).trans (hb7.mono (Nat.le_trans (Nat.le_trans hbel.size hb5.size) hb6.size))⟩

theorem canonLines_walkI (m p c : Int) (w : World) (h1 : 0 ≤ m) (h2 : m ≤ 65535) (h3 : 0 ≤ p) (h4 : p ≤ 65535) (h5 : 0 ≤ c) (h6 : c ≤ 65535) :
    Calls Try.prog 11 #[.int .u16 m, .int .u16 p, .int .u16 c] w fun e w' => e = .returned (.bool true) ∧ Below w.heap.size w w' := by
  obtain ⟨m, rfl⟩ := Int.eq_ofNat_of_zero_le h1
  obtain ⟨p, rfl⟩ := Int.eq_ofNat_of_zero_le h3
  obtain ⟨c, rfl⟩ := Int.eq_ofNat_of_zero_le h5
  exact canonLines_walk m p c w (by omega) (by omega) (by omega)
end Go.Proofs.Ytcgoicijbmhmpaa
