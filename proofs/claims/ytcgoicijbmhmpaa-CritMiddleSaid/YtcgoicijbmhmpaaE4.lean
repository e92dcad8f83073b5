/-
  Where the reference's averages are greatest, and where they cross.
-/
import Derived.Test.YtcgoicijbmhmpaaE3
namespace Go.Proofs.Ytcgoicijbmhmpaa
open Go.RowKit Go.Fl Go.Deep
attribute [local irreducible] avs pt sgs

abbrev GrS (W : World) (b off x y : Nat) (s : Nat) (w' : World) : Prop := w'.cell? ⟨b, off + x, none⟩ = some (.float .f64 (pt s x)) ∧ w'.cell? ⟨b, off + y, none⟩ = some (.float .f64 (pt s y)) ∧ Below W.heap.size W w'
theorem grs_mono {W W1 : World} {b off x y s fn z : Nat} {args : Array Value} (hb : b < W.heap.size)
    (C : Calls Try.prog fn args W1 fun e w' => e = .returned (.float .f64 z) ∧ Below W1.heap.size W1 w') (hS : GrS W b off x y s W1) :
    Calls Try.prog fn args W1 fun e w' => e = .returned (.float .f64 z) ∧ GrS W b off x y s w' :=
  C.mono fun _ w' h => by
    obtain ⟨s1, s2, s3⟩ := hS
    have hz := s3.size
    exact ⟨h.1, (h.2.cell (p := ⟨b, off + x, none⟩) (Nat.lt_of_lt_of_le hb hz)).trans s1, (h.2.cell (p := ⟨b, off + y, none⟩) (Nat.lt_of_lt_of_le hb hz)).trans s2, s3.trans (h.2.mono hz)⟩

set_option maxRecDepth 100000 in
set_option maxHeartbeats 4000000 in
theorem refPeak_ok (A : Option Addr) (n c s : Nat) (f : Nat → Nat) (w : World) (h : ListIn w A n f) (hl : listB n f = true) (h1 : 1 ≤ s) (h2 : s ≤ 1000) :
    Calls Try.prog 47 #[.slice A n c, .int .i64 (s : Nat)] w fun e w' => e = .returned (.tuple #[.float .f64 (pt s (gtop (avs f n s) s)), .int .i64 0]) ∧ Below w.heap.size w w' := by
  have CG := Lib.hid (refGrid_ok s h1 h2 w)
  have CV := Lib.hid (fun W (hW : ListIn W A n f) => values_any A n c f W hW)
  rw [hl] at CV
  have HL := Lib.hid hl
  have HA := Lib.hid h
  clear h hl
  go_enter Try.func47, Try.ntmps47
  go_wp2_with fail
  refine CG.out.mono ?_
  rintro e w1 ⟨⟨G, cc, rfl, hrow⟩, hb1⟩
  obtain ⟨b, off, rfl, hb, hc⟩ := hrow (by omega)
  have HC := Lib.hid hc
  have L1 := Lib.hid (HA.out.below hb1)
  clear hrow hc CG
  go_wp2_with (go_at_call 78; refine (CV.out _ L1.out).mono ?_; rintro e w' ⟨rfl, rfl⟩)
  go_loopw [8, 9] (fun a i wr => ∃ k : Nat, k ≤ s ∧ i = .int .i64 (k + 1 : Nat) ∧ a = .int .i64 (gtop (avs f n s) k : Nat) ∧ Below w1.heap.size w1 wr) (fun _ i _ => s + 1 - (intOf i).toNat)
  case atStart => exact ⟨0, Nat.zero_le _, rfl, rfl, Below.refl _ _⟩
  case round =>
    obtain ⟨k, hk, rfl, rfl, hbel⟩ := hrel
    have hgk := gtop_le (avs f n s) k
    by_cases hks : k < s
    · have c1 := (hbel.cell (p := ⟨b, off + (k + 1), none⟩) hb).trans (HC.out (k + 1) (by omega))
      have c2 := (hbel.cell (p := ⟨b, off + gtop (avs f n s) k, none⟩) hb).trans (HC.out (gtop (avs f n s) k) (by omega))
      have hbr : b < wr.heap.size := Nat.lt_of_lt_of_le hb hbel.size
      have CA := Lib.hid (fun W1 x (hS : GrS wr b off (k + 1) (gtop (avs f n s) k) s W1) => grs_mono hbr (ravp_any A n c s x f W1 ((L1.out.below hbel).below hS.2.2) HL.out h1 h2) hS)
      have hS0 : GrS wr b off (k + 1) (gtop (avs f n s) k) s wr := ⟨c1, c2, Below.refl _ _⟩
      have l1 : ((k + 1 : Nat) : Int) < (s : Int) + 1 := by omega
      have l2 : ((gtop (avs f n s) k : Nat) : Int) < (s : Int) + 1 := by omega
      have hstep : gtop (avs f n s) (k + 1) = if fgt (avs f n s (k + 1)) (avs f n s (gtop (avs f n s) k)) then k + 1 else gtop (avs f n s) k := rfl
      have HST := Lib.hid hstep
      have q1 : (0 : Int) ≤ (k : Int) + 1 := by omega
      have q2 : ((k : Int) + 1).toNat = k + 1 := by omega
      clear hstep c1 c2
      generalize gtop (avs f n s) k = t at *
      cases hcmp : fgt (avs f n s (k + 1)) (avs f n s t) with
      | true =>
        have ho : (FloatKind.f64.format.order (avs f n s (k + 1)) (avs f n s t) == some Ordering.gt) = true := hcmp
        have HS := Lib.hid (HST.out.trans (if_pos hcmp))
        clear hcmp HST
        go_wp2
        go_region_held3 (fun w' => w'.cell? ⟨b, off + (k + 1), none⟩ = some (.float .f64 (pt s (k + 1))) ∧ w'.cell? ⟨b, off + t, none⟩ = some (.float .f64 (pt s t)) ∧ Below wr.heap.size wr w') (first | exact hS0 | exact ⟨hS0.1, hS0.2.1, hS0.2.2.drew⟩ | assumption)
          ((go_at_call 79; refine (CA.out _ _ (by assumption)).mono ?_; rintro e w' ⟨rfl, hS9⟩))
        have hE := Lib.hid (hbel.trans (hS9.2.2.mono hbel.size))
        clear hS9 CA hS0 q1 q2
        go_wp2
        go_roundw
        case measure => simp [intOf]; omega
        case rel => exact ⟨k + 1, by omega, by go_num, by rw [HS.out]; rfl, hE.out⟩
      | false =>
        have ho : (FloatKind.f64.format.order (avs f n s (k + 1)) (avs f n s t) == some Ordering.gt) = false := hcmp
        have HS := Lib.hid (HST.out.trans (if_neg (by rw [hcmp]; simp)))
        clear hcmp HST
        go_wp2
        go_region_held3 (fun w' => w'.cell? ⟨b, off + (k + 1), none⟩ = some (.float .f64 (pt s (k + 1))) ∧ w'.cell? ⟨b, off + t, none⟩ = some (.float .f64 (pt s t)) ∧ Below wr.heap.size wr w') (first | exact hS0 | exact ⟨hS0.1, hS0.2.1, hS0.2.2.drew⟩ | assumption)
          ((go_at_call 79; refine (CA.out _ _ (by assumption)).mono ?_; rintro e w' ⟨rfl, hS9⟩))
        have hE := Lib.hid (hbel.trans (hS9.2.2.mono hbel.size))
        clear hS9 CA hS0 q1 q2
        go_wp2
        go_roundw
        case measure => simp [intOf]; omega
        case rel => exact ⟨k + 1, by omega, by go_num, by rw [HS.out], hE.out⟩
    · have hkk : k = s := by omega
      have l1 : ¬ ((k + 1 : Nat) : Int) < (s : Int) + 1 := by omega
      subst hkk
      have c2 := (hbel.cell (p := ⟨b, off + gtop (avs f n k) k, none⟩) hb).trans (HC.out (gtop (avs f n k) k) (by omega))
      have l2 : ((gtop (avs f n k) k : Nat) : Int) < (k : Int) + 1 := by omega
      obtain ⟨t, ht⟩ : ∃ t, t = gtop (avs f n k) k := ⟨_, rfl⟩
      rw [← ht] at c2 l2 hgk ⊢
      have HT := Lib.hid ht
      clear ht
      go_wp2
      go_ret2
      exact ⟨by rw [← HT.out]; rfl, hb1.trans (hbel.mono hb1.size)⟩

set_option maxRecDepth 100000 in
set_option maxHeartbeats 2000000 in
theorem refPeak_bad (A : Option Addr) (n c : Nat) (s : Int) (f : Nat → Nat) (w : World) (h : ListIn w A n f) (hbad : (listB n f && stepsB s) = false) (hs2 : s ≤ 9223372036854775807) :
    Calls Try.prog 47 #[.slice A n c, .int .i64 s] w fun e w' => e = .returned (.tuple #[.float .f64 0, .int .i64 2]) ∧ Below w.heap.size w w' := by
  have HA := Lib.hid h
  have CV := Lib.hid (fun W (hW : ListIn W A n f) => values_any A n c f W hW)
  cases hst : stepsB s with
  | false =>
    have CG := Lib.hid (refGrid_bad s hst w)
    cases hl : listB n f with
    | false =>
      rw [hl] at CV
      clear h hbad hst hl
      go_enter Try.func47, Try.ntmps47
      go_wp2_with (first | (go_at_call 56; refine CG.out.mono ?_; rintro e w' ⟨rfl, rfl⟩) | (go_at_call 78; refine (CV.out _ HA.out).mono ?_; rintro e w' ⟨rfl, rfl⟩))
      go_ret2
      exact ⟨rfl, Below.refl _ _⟩
    | true =>
      rw [hl] at CV
      clear h hbad hst hl
      go_enter Try.func47, Try.ntmps47
      go_wp2_with (first | (go_at_call 56; refine CG.out.mono ?_; rintro e w' ⟨rfl, rfl⟩) | (go_at_call 78; refine (CV.out _ HA.out).mono ?_; rintro e w' ⟨rfl, rfl⟩))
      go_ret2
      exact ⟨rfl, Below.refl _ _⟩
  | true =>
    rw [hst, Bool.and_true] at hbad
    rw [hbad] at CV
    have hs : 1 ≤ s ∧ s ≤ 1000 := by unfold stepsB at hst; simpa using hst
    obtain ⟨k, rfl⟩ := Int.eq_ofNat_of_zero_le (show 0 ≤ s by omega)
    have CG := Lib.hid (refGrid_ok k (by omega) (by omega) w)
    clear h hbad hst hs2 hs
    go_enter Try.func47, Try.ntmps47
    go_wp2_with fail
    refine CG.out.mono ?_
    rintro e w1 ⟨⟨G, cc, rfl, hrow⟩, hb1⟩
    clear hrow
    go_wp2_with (go_at_call 78; refine (CV.out _ (HA.out.below hb1)).mono ?_; rintro e w' ⟨rfl, rfl⟩)
    go_ret2
    exact ⟨rfl, hb1⟩
end Go.Proofs.Ytcgoicijbmhmpaa
