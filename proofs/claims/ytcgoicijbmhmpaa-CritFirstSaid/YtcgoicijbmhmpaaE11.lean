/-
  The law that averages compare alike up to where they cross.
-/
import Derived.Test.YtcgoicijbmhmpaaE10
namespace Go.Proofs.Ytcgoicijbmhmpaa
open Go.RowKit Go.Fl Go.Deep
attribute [local irreducible] avs pt gtop sgs

theorem sgn57_any (x y : Nat) (W : World) : Calls Try.prog 57 #[.float .f64 x, .float .f64 y] W fun e w' => e = .returned (.int .i64 (sgn x y)) ∧ W = w' := by
  cases h1 : flt x y with
  | true =>
    have hs := Lib.hid (show sgn x y = -1 by unfold sgn; rw [h1]; rfl)
    unfold flt at h1
    go_enter Try.func57, Try.ntmps57
    go_wp2
    go_ret
    exact ⟨by rw [hs.out]; rfl, rfl⟩
  | false =>
    cases h2 : fgt x y with
    | true =>
      have hs := Lib.hid (show sgn x y = 1 by unfold sgn; rw [h1, h2]; rfl)
      unfold flt at h1
      unfold fgt at h2
      go_enter Try.func57, Try.ntmps57
      go_wp2
      go_ret
      exact ⟨by rw [hs.out]; rfl, rfl⟩
    | false =>
      have hs := Lib.hid (show sgn x y = 0 by unfold sgn; rw [h1, h2]; rfl)
      unfold flt at h1
      unfold fgt at h2
      go_enter Try.func57, Try.ntmps57
      go_wp2
      go_ret
      exact ⟨by rw [hs.out]; rfl, rfl⟩

set_option maxRecDepth 100000 in
set_option maxHeartbeats 4000000 in
theorem critFirst_walk (A B : Option Addr) (n c m d q : Nat) (f g : Nat → Nat) (w : World) (h : ListIn w A n f) (hg : ListIn w B m g) (hm : q ≤ 255) :
    Calls Try.prog 23 #[.slice A n c, .slice B m d, .int .u8 (q : Nat)] w fun e w' => e = .returned (.bool true) ∧ Below w.heap.size w w' := by
  obtain ⟨t, ht, en, en'⟩ := pick40 q
  obtain ⟨s, hs⟩ : ∃ s, s = t + 1 := ⟨_, rfl⟩
  have es : (t : Int) + 1 = (s : Nat) := by omega
  have ew : IntKind.i64.wrap ((t : Int) + 1) = (s : Nat) := by rw [IntWalk.i64_in _ (by omega)]; exact es
  have h1 : 1 ≤ s := by omega
  have h2 : s ≤ 1000 := by omega
  have HS := Lib.hid hs
  clear hs
  cases hl : listB n f && listB m g with
  | false =>
    have CP := Lib.hid (Cross_bad A B n c m d (s : Nat) f g w h hg (by rw [← Bool.and_assoc, hl]; rfl))
    clear h hg hl
    go_enter Try.func23, Try.ntmps23
    go_wp2_with fail
    refine CP.out.mono ?_
    rintro e w1 ⟨rfl, hb1⟩
    go_wp2_with (go_at_call 45; refine (works32_any _).mono ?_; rintro e w2 ⟨rfl, hb2⟩)
    go_ret
    exact ⟨rfl, hb1.trans (hb2.mono hb1.size)⟩
  | true =>
    obtain ⟨hl1, hl2⟩ := (Bool.and_eq_true _ _).mp hl
    clear hl
    obtain ⟨j0, hj⟩ := first_ex (fun i => sgs f g n m s i = sgs f g n m s 0) (s + 1)
    have CP := Lib.hid (Cross_ok A B n c m d s f g w h hg hl1 hl2 h1 h2 j0 hj)
    have HQ := Lib.hid (show j0 ≤ s → (if j0 ≤ s then pt s j0 else 0) = pt s j0 ∧ decide (j0 ≤ s) = true from fun h => ⟨if_pos h, decide_eq_true h⟩)
    have HN := Lib.hid (show ¬ j0 ≤ s → (if j0 ≤ s then pt s j0 else 0) = 0 ∧ decide (j0 ≤ s) = false from fun h => ⟨if_neg h, decide_eq_false h⟩)
    generalize (if j0 ≤ s then pt s j0 else 0) = Q at *
    generalize decide (j0 ≤ s) = b0 at *
    by_cases hn : (60 : Int) < n
    · clear h hg hl1 hl2 HQ HN
      go_enter Try.func23, Try.ntmps23
      go_wp2_with fail
      refine CP.out.mono ?_
      rintro e w1 ⟨rfl, hb1⟩
      go_wp2_with (go_at_call 45; refine (works32_any _).mono ?_; rintro e w2 ⟨rfl, hb2⟩)
      go_ret
      exact ⟨rfl, hb1.trans (hb2.mono hb1.size)⟩
    · by_cases hm2 : (60 : Int) < m
      · clear h hg hl1 hl2 HQ HN
        go_enter Try.func23, Try.ntmps23
        go_wp2_with fail
        refine CP.out.mono ?_
        rintro e w1 ⟨rfl, hb1⟩
        go_wp2_with (go_at_call 45; refine (works32_any _).mono ?_; rintro e w2 ⟨rfl, hb2⟩)
        go_ret
        exact ⟨rfl, hb1.trans (hb2.mono hb1.size)⟩
      · have HA := Lib.hid h
        have HG := Lib.hid hg
        have CA := Lib.hid (fun W x (hW : ListIn W A n f) => avp_any A n c s x f W hW hl1 h1 h2)
        have CB := Lib.hid (fun W x (hW : ListIn W B m g) => avp_any B m d s x g W hW hl2 h1 h2)
        have CG := Lib.hid (fun W => Grid_ok s h1 h2 W)
        have CS := Lib.hid (fun i W => show Calls Try.prog 57 #[.float .f64 (avs f n s i), .float .f64 (avs g m s i)] W fun e w' => e = .returned (.int .i64 (sgs f g n m s i)) ∧ W = w' by rw [sgs_def]; exact sgn57_any _ _ W)
        have HF := Lib.hid (fun i => feq_self (pt_fin (x := i) h1 h2))
        have F0 : (FloatKind.f64.format.order 0 0 == some Ordering.eq) = true := by decide +kernel
        have HJ := Lib.hid hj
        generalize hS : sgs f g n m s 0 = S0 at *
        have HS0 := Lib.hid hS
        clear h hg hl1 hl2 hj hS
        go_enter Try.func23, Try.ntmps23
        go_wp2_with fail
        refine CP.out.mono ?_
        rintro e w1 ⟨rfl, hb1⟩
        have H1 := Lib.hid hb1
        clear hb1 CP
        go_wp2_with fail
        refine (CG.out _).mono ?_
        rintro e w3 ⟨⟨G, cc, rfl, hrow⟩, hb3⟩
        obtain ⟨b, off, rfl, hb, hc⟩ := hrow (by omega)
        have HC := Lib.hid hc
        have H3 := Lib.hid (H1.out.trans (hb3.mono H1.out.size))
        have L3 := Lib.hid (HA.out.below H3.out)
        have M3 := Lib.hid (HG.out.below H3.out)
        clear hrow hc hb3
        go_wp2_with fail
        go_loopw [13, 14] (fun v i wr => ∃ j : Nat, ∃ z : Int, j ≤ s + 1 ∧ v = .int .i64 z ∧ i = .int .i64 j ∧ Hid (j ≤ j0 ∧ (0 < j → z = S0)) ∧ Below w3.heap.size w3 wr) (fun _ i _ => s + 2 - (intOf i).toNat)
        case atStart => exact ⟨0, 0, Nat.zero_le _, rfl, rfl, ⟨Nat.zero_le _, fun h => by omega⟩, Below.refl _ _⟩
        case round =>
          obtain ⟨j, z, hj, rfl, rfl, hz, hbel⟩ := hrel
          by_cases hjs : j < s + 1
          · have c1 := fun W (hW : Below wr.heap.size wr W) => (hW.cell (p := ⟨b, off + j, none⟩) (Nat.lt_of_lt_of_le hb hbel.size)).trans ((hbel.cell (p := ⟨b, off + j, none⟩) hb).trans (HC.out j hjs))
            have K1 := Lib.hid c1
            clear c1
            have d0 := K1.out wr (Below.refl _ wr)
            have l1 : (j : Int) < (s : Int) + 1 := by omega
            have HB := Lib.hid hbel
            clear hbel
            go_wp2_with fail
            refine (CA.out _ j (L3.out.below HB.out)).mono ?_
            rintro e wa ⟨rfl, hba⟩
            have d1 := K1.out wa hba
            have Ha := Lib.hid (HB.out.trans (hba.mono HB.out.size))
            have Hx := Lib.hid hba
            clear hba d0
            go_wp2_with fail
            refine (CB.out _ j (M3.out.below Ha.out)).mono ?_
            rintro e wc ⟨rfl, hbc⟩
            have d2 := K1.out wc (Hx.out.trans (hbc.mono Hx.out.size))
            have Hc := Lib.hid (Ha.out.trans (hbc.mono Ha.out.size))
            clear hbc d1
            have o1 := HF.out j
            rcases Nat.eq_zero_or_pos j with h0 | h0
            · subst h0
              have hne : 0 < j0 := by
                rcases Nat.eq_zero_or_pos j0 with h3 | h3
                · have := HJ.out.2.2 (by omega)
                  rw [h3] at this
                  exact absurd HS0.out this
                · exact h3
              have HNE := Lib.hid hne
              have CS0 : Hid (∀ W, Calls Try.prog 57 #[.float .f64 (avs f n s 0), .float .f64 (avs g m s 0)] W fun e w' => e = .returned (.int .i64 S0) ∧ W = w') := Lib.hid (fun W => by have h3 := CS.out 0 W; rw [HS0.out] at h3; exact h3)
              clear hne hz
              go_wp2_with (go_at_call 57; refine (CS0.out _).mono ?_; rintro e w' ⟨rfl, rfl⟩)
              go_roundw
              case rel => exact ⟨1, S0, by omega, rfl, by go_num, ⟨HNE.out, fun _ => rfl⟩, Hc.out⟩
              case measure => simp [intOf] <;> omega
            · have hzS : z = S0 := hz.out.2 h0
              subst hzS
              have l2 : ¬ (j : Int) = 0 := by omega
              rcases Nat.lt_or_ge j j0 with hlt | hge
              · have CSj : Hid (∀ W, Calls Try.prog 57 #[.float .f64 (avs f n s j), .float .f64 (avs g m s j)] W fun e w' => e = .returned (.int .i64 z) ∧ W = w') := Lib.hid (fun W => by have h3 := CS.out j W; rw [show sgs f g n m s j = z from HJ.out.2.1 j hlt] at h3; exact h3)
                have HL := Lib.hid hlt
                clear hlt hz h0
                go_wp2_with (go_at_call 57; refine (CSj.out _).mono ?_; rintro e w' ⟨rfl, rfl⟩)
                go_roundw
                case rel => exact ⟨j + 1, _, by omega, rfl, by go_num, ⟨HL.out, fun _ => rfl⟩, Hc.out⟩
                case measure => simp [intOf]; omega
              · have hjj : j = j0 := by have := hz.out.1; omega
                subst hjj
                have hne : ¬ sgs f g n m s j = z := by have h3 := HJ.out.2.2 (by omega); exact h3
                obtain ⟨e1, e2⟩ := HQ.out (by omega)
                subst e1
                subst e2
                clear hz h0 hge
                go_wp2_with (first | (go_at_call 57; refine (CS.out _ _).mono ?_; rintro e w' ⟨rfl, rfl⟩) | (go_at_call 45; refine (works32_any _).mono ?_; rintro e w4 ⟨rfl, hb4⟩))
                go_ret
                have hz := H3.out.trans (Hc.out.mono H3.out.size)
                exact ⟨rfl, hz.trans (hb4.mono hz.size)⟩
          · obtain rfl : j = s + 1 := by omega
            obtain ⟨e1, e2⟩ := HN.out (by have := hz.out.1; omega)
            subst e1
            subst e2
            clear hz
            go_wp2_with (go_at_call 45; refine (works32_any _).mono ?_; rintro e w4 ⟨rfl, hb4⟩)
            go_ret
            exact ⟨rfl, (H3.out.trans (hbel.mono H3.out.size)).trans (hb4.mono (Nat.le_trans H3.out.size hbel.size))⟩
theorem critFirst_walkI (A B : Option Addr) (n c m d : Nat) (q : Int) (f g : Nat → Nat) (w : World) (h : ListIn w A n f) (hg : ListIn w B m g) (h1 : 0 ≤ q) (h2 : q ≤ 255) :
    Calls Try.prog 23 #[.slice A n c, .slice B m d, .int .u8 q] w fun e w' => e = .returned (.bool true) ∧ Below w.heap.size w w' := by
  obtain ⟨q, rfl⟩ := Int.eq_ofNat_of_zero_le h1
  exact critFirst_walk A B n c m d q f g w h hg (by omega)
end Go.Proofs.Ytcgoicijbmhmpaa
