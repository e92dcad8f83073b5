/-
  The law that no number of a grid has a greater average.
-/
import Derived.Test.YtcgoicijbmhmpaaE9
namespace Go.Proofs.Ytcgoicijbmhmpaa
open Go.RowKit Go.Fl Go.Deep

theorem gtop_max (A : Nat → Nat) (hA : ∀ i, isFin (A i)) (s : Nat) : (∀ i, i ≤ s → fv (A i) ≤ fv (A (gtop A s))) ∧ (∀ i, i < gtop A s → fv (A i) < fv (A (gtop A s))) := by
  induction s with
  | zero => exact ⟨fun i hi => by obtain rfl : i = 0 := by omega
                                  exact Rat.le_refl, fun i hi => absurd hi (by show ¬ i < 0; omega)⟩
  | succ s ih =>
    obtain ⟨a, b⟩ := ih
    cases hc : fgt (A (s + 1)) (A (gtop A s)) with
    | true =>
      have e : gtop A (s + 1) = s + 1 := by show (if fgt (A (s + 1)) (A (gtop A s)) then s + 1 else gtop A s) = _; rw [hc]; rfl
      have h := (fgt_iff (hA _) (hA _)).1 hc
      rw [e]
      refine ⟨fun i hi => ?_, fun i hi => by have := a i (by omega); grind⟩
      rcases Nat.lt_or_ge s i with h1 | h1
      · obtain rfl : i = s + 1 := by omega
        exact Rat.le_refl
      · exact Rat.le_trans (a i h1) (Rat.le_of_lt h)
    | false =>
      have e : gtop A (s + 1) = gtop A s := by show (if fgt (A (s + 1)) (A (gtop A s)) then s + 1 else gtop A s) = _; rw [hc]; rfl
      have h : ¬ fv (A (gtop A s)) < fv (A (s + 1)) := fun h => by
        rw [(fgt_iff (hA _) (hA _)).2 h] at hc
        exact Bool.noConfusion hc
      rw [e]
      refine ⟨fun i hi => ?_, b⟩
      rcases Nat.lt_or_ge s i with h1 | h1
      · obtain rfl : i = s + 1 := by omega
        exact Rat.not_lt.1 h
      · exact a i h1

theorem pt_lt {s i j : Nat} (h1 : 1 ≤ s) (h2 : s ≤ 1000) (hij : i < j) (hj : j ≤ s) : fv (pt s i) < fv (pt s j) := by
  induction j with
  | zero => omega
  | succ j ih =>
    have h := pt_step h1 h2 (show j < s by omega)
    rcases Nat.lt_or_ge i j with h3 | h3
    · have := ih h3 (by omega); grind
    · obtain rfl : i = j := by omega
      exact h

theorem flt_false {x y : Nat} (hx : isFin x) (hy : isFin y) (h : fv y ≤ fv x) : flt x y = false := by
  rw [Bool.eq_false_iff]; intro h1; have := (flt_iff hx hy).1 h1; grind
theorem fgt_false {x y : Nat} (hx : isFin x) (hy : isFin y) (h : fv x ≤ fv y) : fgt x y = false := by
  rw [Bool.eq_false_iff]; intro h1; have := (fgt_iff hx hy).1 h1; grind
theorem fge_false {x y : Nat} (hx : isFin x) (hy : isFin y) (h : fv x < fv y) : fge x y = false := by
  rw [Bool.eq_false_iff]; intro h1; have := (fge_iff hx hy).1 h1; grind
theorem feq_false {x y : Nat} (hx : isFin x) (hy : isFin y) (h : fv x ≠ fv y) : feq x y = false := by
  rw [Bool.eq_false_iff]; intro h1; exact h ((feq_iff hx hy).1 h1)

/-- The average of a list at a point of the grid. -/
theorem avp_any (A : Option Addr) (n c s x : Nat) (f : Nat → Nat) (W : World) (h : ListIn W A n f) (hl : listB n f = true) (h1 : 1 ≤ s) (h2 : s ≤ 1000) :
    Calls Try.prog 31 #[.slice A n c, .float .f64 (pt s x)] W fun e w' => e = .returned (.tuple #[.float .f64 (avs f n s x), .int .i64 0]) ∧ Below W.heap.size W w' := by
  rw [show avs f n s x = avg f (n - 1) (absb (pt s x)) by unfold avs; rfl]
  exact Average_ok A n c (pt s x) f W h (pt_prob h1 h2).2 hl (pt_prob h1 h2).1

theorem pick40 (m : Nat) : ∃ t : Nat, t < 40 ∧ (m : Int) % 40 = (t : Nat) ∧ (m : Int).tmod 40 = (t : Nat) := by
  refine ⟨m % 40, Nat.mod_lt _ (by decide), ?_, ?_⟩
  · omega
  · rw [Int.tmod_eq_emod_of_nonneg (by omega)]; omega
attribute [local irreducible] avs pt gtop

set_option maxRecDepth 100000 in
set_option maxHeartbeats 4000000 in
theorem critBest_walk (A : Option Addr) (n c m : Nat) (f : Nat → Nat) (w : World) (h : ListIn w A n f) (hm : m ≤ 255) :
    Calls Try.prog 22 #[.slice A n c, .int .u8 (m : Nat)] w fun e w' => e = .returned (.bool true) ∧ Below w.heap.size w w' := by
  obtain ⟨t, ht, en, en'⟩ := pick40 m
  obtain ⟨s, hs⟩ : ∃ s, s = t + 1 := ⟨_, rfl⟩
  have es : (t : Int) + 1 = (s : Nat) := by omega
  have ew : IntKind.i64.wrap ((t : Int) + 1) = (s : Nat) := by rw [IntWalk.i64_in _ (by omega)]; exact es
  have h1 : 1 ≤ s := by omega
  have h2 : s ≤ 1000 := by omega
  have HS := Lib.hid hs
  clear hs
  cases hl : listB n f with
  | false =>
    have CP := Lib.hid (Peak_bad A n c (s : Nat) f w h (by rw [hl]; rfl))
    clear h hl
    go_enter Try.func22, Try.ntmps22
    go_wp2_with fail
    refine CP.out.mono ?_
    rintro e w1 ⟨rfl, hb1⟩
    go_wp2_with (go_at_call 45; refine (works32_any _).mono ?_; rintro e w2 ⟨rfl, hb2⟩)
    go_ret
    exact ⟨rfl, hb1.trans (hb2.mono hb1.size)⟩
  | true =>
    have CP := Lib.hid (Peak_ok A n c s f w h hl h1 h2)
    by_cases hn : (60 : Int) < n
    · clear h hl
      go_enter Try.func22, Try.ntmps22
      go_wp2_with fail
      refine CP.out.mono ?_
      rintro e w1 ⟨rfl, hb1⟩
      go_wp2_with (go_at_call 45; refine (works32_any _).mono ?_; rintro e w2 ⟨rfl, hb2⟩)
      go_ret
      exact ⟨rfl, hb1.trans (hb2.mono hb1.size)⟩
    · have HA := Lib.hid h
      have CA := Lib.hid (fun W x (hW : ListIn W A n f) => avp_any A n c s x f W hW hl h1 h2)
      have CG := Lib.hid (fun W => Grid_ok s h1 h2 W)
      have hfin := fun i => avs_fin (i := i) h1 h2 h.wf hl
      have pfin := fun i => pt_fin (x := i) h1 h2
      obtain ⟨gm, gl⟩ := gtop_max (avs f n s) hfin s
      have hT := gtop_le (avs f n s) s
      generalize hTe : gtop (avs f n s) s = T at *
      have F1 := Lib.hid (fun i (hi : i ≤ s) => fgt_false (hfin i) (hfin T) (gm i hi))
      have F2 := Lib.hid (fun i (hi : i < T) => fge_false (hfin i) (hfin T) (gl i hi))
      have F3 := Lib.hid (fun i (hi : i < T) => (flt_iff (pfin i) (pfin T)).2 (pt_lt h1 h2 hi hT))
      have F4 := Lib.hid (fun i (hi : i < T) => feq_false (pfin i) (pfin T) (fun h3 => by have := pt_lt h1 h2 hi hT; grind))
      have F5 := Lib.hid (fun i (hi : T < i) (hs : i ≤ s) => flt_false (pfin i) (pfin T) (Rat.le_of_lt (pt_lt h1 h2 hi hs)))
      have F6 := Lib.hid (flt_false (pfin T) (pfin T) Rat.le_refl)
      have F7 := Lib.hid (feq_self (pfin T))
      clear h hl hfin pfin gm gl hTe
      go_enter Try.func22, Try.ntmps22
      go_wp2_with fail
      refine CP.out.mono ?_
      rintro e w1 ⟨rfl, hb1⟩
      have L1 := Lib.hid (HA.out.below hb1)
      have H1 := Lib.hid hb1
      clear hb1 CP
      go_wp2_with fail
      refine (CA.out _ T L1.out).mono ?_
      rintro e w2 ⟨rfl, hb2⟩
      have H2 := Lib.hid (H1.out.trans (hb2.mono H1.out.size))
      clear hb2
      go_wp2_with fail
      refine (CG.out _).mono ?_
      rintro e w3 ⟨⟨G, cc, rfl, hrow⟩, hb3⟩
      obtain ⟨b, off, rfl, hb, hc⟩ := hrow (by omega)
      have HC := Lib.hid hc
      have H3 := Lib.hid (H2.out.trans (hb3.mono H2.out.size))
      have L3 := Lib.hid (HA.out.below H3.out)
      clear hrow hc hb3
      go_wp2_with fail
      go_loopw [12, 13] (fun v i wr => ∃ j : Nat, ∃ y : Bool, j ≤ s + 1 ∧ v = .bool y ∧ i = .int .i64 j ∧ Hid (y = decide (T < j)) ∧ Below w3.heap.size w3 wr) (fun _ i _ => s + 2 - (intOf i).toNat)
      case atStart => exact ⟨0, false, Nat.zero_le _, rfl, rfl, by show false = decide (T < 0); simp, Below.refl _ _⟩
      case round =>
        obtain ⟨j, y, hj, rfl, rfl, hy, hbel⟩ := hrel
        by_cases hjs : j < s + 1
        · have c1 := fun W (hW : Below wr.heap.size wr W) => (hW.cell (p := ⟨b, off + j, none⟩) (Nat.lt_of_lt_of_le hb hbel.size)).trans ((hbel.cell (p := ⟨b, off + j, none⟩) hb).trans (HC.out j hjs))
          have K1 := Lib.hid c1
          clear c1
          have d0 := K1.out wr (Below.refl _ wr)
          have l1 : (j : Int) < (s : Int) + 1 := by omega
          have LW := Lib.hid (L3.out.below hbel)
          have HB := Lib.hid hbel
          clear hbel
          go_wp2_with fail
          refine (CA.out _ j LW.out).mono ?_
          rintro e wa ⟨rfl, hba⟩
          have d1 := K1.out wa hba
          have Ha := Lib.hid (HB.out.trans (hba.mono HB.out.size))
          have o1 : (FloatKind.f64.format.order (avs f n s j) (avs f n s T) == some Ordering.gt) = false := F1.out j (by omega)
          clear hba d0
          rcases Nat.lt_trichotomy j T with hlt | heq | hgt
          · have hy0 : y = false := by rw [hy.out]; simp; omega
            have o2 : (FloatKind.f64.format.order (pt s j) (pt s T) == some Ordering.lt) = true := F3.out j hlt
            have o3 : (FloatKind.f64.format.order (avs f n s j) (avs f n s T) == some Ordering.gt || FloatKind.f64.format.order (avs f n s j) (avs f n s T) == some Ordering.eq) = false := F2.out j hlt
            have o4 : (FloatKind.f64.format.order (pt s j) (pt s T) == some Ordering.eq) = false := F4.out j hlt
            have o5 := (Bool.or_eq_false_iff.1 o3).2
            subst hy0
            have HL := Lib.hid hlt
            clear hy hlt
            go_wp2
            go_roundw
            case rel => exact ⟨j + 1, false, by omega, rfl, by go_num, by have := HL.out; show false = decide (T < j + 1); simp; omega, Ha.out⟩
            case measure => simp [intOf]; omega
          · subst heq
            have hy0 : y = false := by rw [hy.out]; simp
            have o2 := F6.out
            have o4 := F7.out
            unfold flt at o2
            subst hy0
            clear hy
            go_wp2
            go_roundw
            case rel => exact ⟨j + 1, true, by omega, rfl, by go_num, by show true = decide (j < j + 1); simp, Ha.out⟩
            case measure => simp [intOf]; omega
          · have hy0 : y = true := by rw [hy.out]; simp; omega
            have o2 := F5.out j hgt (by omega)
            unfold flt at o2
            subst hy0
            have HL := Lib.hid hgt
            clear hy hgt
            go_wp2
            go_roundw
            case rel => exact ⟨j + 1, true, by omega, rfl, by go_num, by have := HL.out; show true = decide (T < j + 1); simp; omega, Ha.out⟩
            case measure => simp [intOf]; omega
        · obtain rfl : j = s + 1 := by omega
          have hy0 : y = true := by rw [hy.out]; simp; omega
          subst hy0
          clear hy
          go_wp2_with (go_at_call 45; refine (works32_any _).mono ?_; rintro e w4 ⟨rfl, hb4⟩)
          go_ret
          exact ⟨rfl, (H3.out.trans (hbel.mono H3.out.size)).trans (hb4.mono (Nat.le_trans H3.out.size hbel.size))⟩
theorem critBest_walkI (A : Option Addr) (n c : Nat) (m : Int) (f : Nat → Nat) (w : World) (h : ListIn w A n f) (h1 : 0 ≤ m) (h2 : m ≤ 255) :
    Calls Try.prog 22 #[.slice A n c, .int .u8 m] w fun e w' => e = .returned (.bool true) ∧ Below w.heap.size w w' := by
  obtain ⟨m, rfl⟩ := Int.eq_ofNat_of_zero_le h1
  exact critBest_walk A n c m f w h (by omega)
end Go.Proofs.Ytcgoicijbmhmpaa
