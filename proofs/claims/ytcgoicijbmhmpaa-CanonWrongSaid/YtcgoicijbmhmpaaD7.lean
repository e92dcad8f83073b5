/-
  The walk of the law on the ends.
-/
import Derived.Test.YtcgoicijbmhmpaaD6
namespace Go.Proofs.Ytcgoicijbmhmpaa
open Go.RowKit Go.Fl Go.Deep
attribute [local go_sem] run_store_float

theorem avg_call (g n c p : Nat) (f : Nat → Nat) (M : Rat) (hM : M ≤ 1267650600228229401496703205376) (W : World) (hf : Whole f n M) (h : OwnG W g n f) (h1 : 1 ≤ n) (h2 : n ≤ 16385) (hp : p < 2 ^ 64) (hpr : prob p = true) :
    Calls Try.prog 31 #[.slice (some ⟨g, 0, none⟩) n c, .float .f64 p] W fun e w' => e = .returned (.tuple #[.float .f64 (avg f (n - 1) (absb p)), .int .i64 0]) ∧ Below W.heap.size W w' :=
  Average_ok _ n c p f W (hf.listIn h h2) hp (hf.list hM h1 h2) hpr
theorem slope_call (g n c p : Nat) (f : Nat → Nat) (M : Rat) (hM : M ≤ 1267650600228229401496703205376) (W : World) (hf : Whole f n M) (h : OwnG W g n f) (h1 : 1 ≤ n) (h2 : n ≤ 16385) (hp : p < 2 ^ 64) (hpr : prob p = true) :
    Calls Try.prog 33 #[.slice (some ⟨g, 0, none⟩) n c, .float .f64 p] W fun e w' => e = .returned (.tuple #[.float .f64 (slope f (n - 1) (absb p)), .int .i64 0]) ∧ Below W.heap.size W w' :=
  Slope_any _ n c p f W (hf.listIn h h2) hp (hf.list hM h1 h2) hpr

set_option maxRecDepth 100000 in
set_option maxHeartbeats 4000000 in
theorem canonEnds_walk (A : Option Addr) (n c : Nat) (l : Nat → Int) (p : Nat) (x : Int) (w : World) (h : IntsIn w .i32 A n l) (hp : p ≤ 65535) (hx : (Lit.int .i32 x).wf = true) :
    Calls Try.prog 9 #[.slice A n c, .int .u16 p, .int .i32 x] w fun e w' => e = .returned (.bool true) ∧ Below w.heap.size w w' := by
  obtain ⟨k, hk⟩ : ∃ k, k = p % 1025 := ⟨_, rfl⟩
  have hk1 : k ≤ 1024 := by omega
  have CH := Lib.hid (fun W => chance_c p hp W)
  rw [← hk] at CH
  have CP := Lib.hid (plain_c A n c l w h)
  have HF := Lib.hid (vals_whole h.wf)
  have hN1 := cnt_pos n
  have hN2 := cnt_le n
  clear h hk
  obtain ⟨xb1, xb2, xb3⟩ := ofI32 hx
  have HG := Lib.hid (show Whole (fun _ => ofI x) (cnt n) 2147483648 from fun _ _ => ⟨xb1, xb3⟩)
  have CX := Lib.hid (fun W => abs_any (ofI x) xb1.1 W)
  have HX := Lib.hid hx
  clear xb1 xb2 xb3 hx
  have HK := Lib.hid (ok_abs (m := cnt n - 1) (by omega) (ch_lt hk1) (ch_prob hk1))
  have HK2 := Lib.hid (ok_abs (m := cnt n - 1 - 1) (by omega) (ch_lt hk1) (ch_prob hk1))
  have HL := Lib.hid (ch_lt hk1)
  have HP := Lib.hid (ch_prob hk1)
  go_enter Try.func9, Try.ntmps9
  go_wp2_with fail
  refine CP.out.mono ?_
  rintro e w1 ⟨⟨G, cc, rfl, hG, hown⟩, hb1⟩
  have HO := Lib.hid (OwnG.of_own hown)
  clear hown CP
  generalize vals l n = f at *
  generalize cnt n = N at *
  have l1 : (0 : Int) < (N : Int) := by omega
  have q1 : IntKind.i64.wrap ((N : Int) - 1) = (N : Int) - 1 := IntWalk.i64_in _ (by omega)
  have q2 : (0 : Int) ≤ (N : Int) - 1 := by omega
  have q3 : ((N : Int) - 1).toNat = N - 1 := by omega
  have q4 : (N : Int) - 1 < (N : Int) := by omega
  have q5 : (1 : Int) ≤ (N : Int) := by omega
  go_wp2_with fail
  refine (avg_call G N cc 0 f _ le_M31 w1 HF.out HO.out hN1 (by omega) (by omega) prob_zero).mono ?_
  rintro e w2 ⟨rfl, hb2⟩
  have O2 := Lib.hid (HO.out.below hb2 HO.out.lt)
  go_wp2_with fail
  refine (avg_call G N cc one f _ le_M31 w2 HF.out O2.out hN1 (by omega) (by unfold one; omega) prob_one).mono ?_
  rintro e w3 ⟨rfl, hb3⟩
  have O3 := Lib.hid (O2.out.below hb3 O2.out.lt)
  go_wp2_with (go_at_call 41; refine (copysign_c _).mono ?_; rintro e w' ⟨rfl, rfl⟩)
  refine (avg_call G N cc 9223372036854775808 f _ le_M31 w3 HF.out O3.out hN1 (by omega) (by omega) prob_mzero).mono ?_
  rintro e w4 ⟨rfl, hb4⟩
  have O4 := Lib.hid (O3.out.below hb4 O3.out.lt)
  have e0 : absb 0 = 0 := rfl
  have e1 : absb one = one := by unfold absb one; rfl
  have e2 : absb 9223372036854775808 = 0 := by unfold absb; rfl
  rw [e0, e1, e2]
  clear e0 e1 e2
  obtain ⟨v1, v2⟩ := (avg_ends le_M31 HF.out hN1 (by omega) isFin_zero).1 fv_zero
  obtain ⟨v3, v4⟩ := (avg_ends le_M31 HF.out hN1 (by omega) isFin_one).2 fv_one
  have g1 := feq_of v1 (HF.out 0 (by omega)).1 v2
  have g2 := feq_of v3 (HF.out (N - 1) (by omega)).1 v4
  have g3 : (FloatKind.f64.format.order (avg f (N - 1) 0) (f 0) != some Ordering.eq) = false := by unfold bne; rw [g1]; rfl
  have g4 : (FloatKind.f64.format.order (avg f (N - 1) one) (f (N - 1)) != some Ordering.eq) = false := by unfold bne; rw [g2]; rfl
  have c1 := O4.out.cell (show 0 < N by omega)
  have c2 := O4.out.cell (show N - 1 < N by omega)
  have CO := Lib.hid (fun W => one_any (avg f (N - 1) 0) (avg f (N - 1) 0) W)
  simp only [beq_self_eq_true] at CO
  clear v1 v2 v3 v4 O2 O3 HO
  generalize avg f (N - 1) 0 = a0 at *
  generalize avg f (N - 1) one = a1 at *
  go_wp2_with (go_at_call 35; refine (CO.out _).mono ?_; rintro e w' ⟨rfl, rfl⟩)
  have HB := Lib.hid (((hb1.trans (hb2.mono hb1.size)).trans (hb3.mono (Nat.le_trans hb1.size hb2.size))).trans (hb4.mono (Nat.le_trans (Nat.le_trans hb1.size hb2.size) hb3.size)))
  clear c1 c2 g1 g2 g3 g4 CO
  go_loopw [76] (fun i wr => ∃ j : Nat, j ≤ N ∧ i = .int .i64 j ∧ Hid (OwnG wr G N (fun q => if q < j then ofI x else f q)) ∧ Below w.heap.size w wr) (fun i _ => N - (intOf i).toNat)
  case atStart => exact ⟨0, Nat.zero_le _, rfl, Lib.hid (O4.out.congr fun j _ => by rw [if_neg (by omega)]), HB.out⟩
  case round =>
    obtain ⟨j, hj, rfl, hown, hbel⟩ := hrel
    by_cases hjn : j < N
    · have c1 := hown.out.cell hjn
      have c2 := hown.out.frozen j
      have HS := Lib.hid (hown.out.set j (ofI x) (f' := fun q => if q < j + 1 then ofI x else f q) (fun q _ => by
        by_cases h1 : q = j
        · rw [if_pos h1, if_pos (by omega)]
        · rw [if_neg h1]; by_cases h2 : q < j
          · rw [if_pos h2, if_pos (by omega)]
          · rw [if_neg h2, if_neg (by omega)]))
      have l6 : (j : Int) < (N : Int) := by omega
      clear hown
      go_wp2
      go_roundw
      case rel => exact ⟨j + 1, by omega, by go_num, HS, hbel.setCell (p := ⟨G, j, none⟩) hG _⟩
      case measure => simp [intOf]; omega
    · have hjj : j = N := by omega
      have l6 : ¬ (j : Int) < (N : Int) := by omega
      have O5 := Lib.hid (hown.out.congr (f' := fun _ => ofI x) fun q hq => by rw [if_pos (by omega)])
      clear hown hjj
      go_wp2_with (go_at_call 38; refine (CH.out _).mono ?_; rintro e w' ⟨rfl, rfl⟩)
      refine (avg_call G N cc (ch k) _ _ le_M31 wr HG.out O5.out hN1 (by omega) HL.out HP.out).mono ?_
      rintro e w5 ⟨rfl, hb5⟩
      have O6 := Lib.hid (O5.out.below hb5 O5.out.lt)
      clear O5
      go_wp2_with (go_at_call 38; refine (CH.out _).mono ?_; rintro e w' ⟨rfl, rfl⟩)
      refine (slope_call G N cc (ch k) _ _ le_M31 w5 HG.out O6.out hN1 (by omega) HL.out HP.out).mono ?_
      rintro e w6 ⟨rfl, hb6⟩
      obtain ⟨n1, n2, n3⟩ := equal_near HX.out hN1 (by omega) HK.out
      obtain ⟨s1, s2⟩ := equal_slope HX.out (n := N - 1) (by omega) HK2.out
      have CN := Lib.hid (fun W => near_c _ _ _ W n1 n2 n3)
      have g5 := feq_of s1 isFin_zero (by rw [s2, fv_zero])
      clear n1 n2 n3 s1 s2 O6
      generalize slope (fun _ => ofI x) (N - 1) (absb (ch k)) = sl at *
      generalize avg (fun _ => ofI x) (N - 1) (absb (ch k)) = av at *
      go_wp2_with (first | (go_at_call 42; refine (CX.out _).mono ?_; rintro e w' ⟨rfl, rfl⟩) | (go_at_call 39; refine (CN.out _).mono ?_; rintro e w' ⟨rfl, rfl⟩) | (go_at_call 27; refine (works_any _).mono ?_; rintro e w7 ⟨rfl, hb7⟩))
      go_ret
      exact ⟨rfl, ((hbel.trans (hb5.mono hbel.size)).trans (hb6.mono (Nat.le_trans hbel.size hb5.size))).trans (hb7.mono (Nat.le_trans (Nat.le_trans hbel.size hb5.size) hb6.size))⟩

theorem canonEnds_walkI (A : Option Addr) (n c : Nat) (l : Nat → Int) (p x : Int) (w : World) (h : IntsIn w .i32 A n l) (h1 : 0 ≤ p) (h2 : p ≤ 65535) (hx : (Lit.int .i32 x).wf = true) :
    Calls Try.prog 9 #[.slice A n c, .int .u16 p, .int .i32 x] w fun e w' => e = .returned (.bool true) ∧ Below w.heap.size w w' := by
  obtain ⟨p, rfl⟩ := Int.eq_ofNat_of_zero_le h1
  exact canonEnds_walk A n c l p x w h (by omega) hx
end Go.Proofs.Ytcgoicijbmhmpaa
