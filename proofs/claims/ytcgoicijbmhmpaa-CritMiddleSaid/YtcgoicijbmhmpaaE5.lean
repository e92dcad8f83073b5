/-
  The walk of the law on where an average is greatest; the reference's crossings.
-/
import Derived.Test.YtcgoicijbmhmpaaE4
namespace Go.Proofs.Ytcgoicijbmhmpaa
open Go.RowKit Go.Fl Go.Deep
theorem sgs_def (f g : Nat → Nat) (n m s x : Nat) : sgs f g n m s x = sgn (avs f n s x) (avs g m s x) := rfl
attribute [local irreducible] avs pt sgs

theorem pt_fin {s x : Nat} (h1 : 1 ≤ s) (h2 : s ≤ 1000) : isFin (pt s x) := (prob_fin (pt_prob h1 h2).2 (pt_prob h1 h2).1).1
/-- What both programs answer to a search for the greatest average. -/
theorem peak_both (n : Nat) (s : Int) (f : Nat → Nat) (_hwf : ∀ j, j < n → f j < 2 ^ 64) (hs2 : s ≤ 9223372036854775807) : ∃ x z, isFin x ∧ (z = if listB n f && stepsB s then 0 else 2) ∧
    (∀ W A c, ListIn W A n f → Calls Try.prog 46 #[.slice A n c, .int .i64 s] W (Says x z W)) ∧ (∀ W A c, ListIn W A n f → Calls Try.prog 47 #[.slice A n c, .int .i64 s] W (Says x z W)) := by
  cases hb : listB n f && stepsB s with
  | false => exact ⟨0, 2, isFin_zero, by simp, fun W A c h => Peak_bad A n c s f W h hb, fun W A c h => refPeak_bad A n c s f W h hb hs2⟩
  | true =>
    obtain ⟨hl, hst⟩ := (Bool.and_eq_true _ _).mp hb
    have hs : 1 ≤ s ∧ s ≤ 1000 := by unfold stepsB at hst; simpa using hst
    obtain ⟨k, rfl⟩ := Int.eq_ofNat_of_zero_le (show 0 ≤ s by omega)
    exact ⟨_, 0, pt_fin (by omega) (by omega), by simp, fun W A c h => Peak_ok A n c k f W h hl (by omega) (by omega), fun W A c h => refPeak_ok A n c k f W h hl (by omega) (by omega)⟩

set_option maxRecDepth 100000 in
set_option maxHeartbeats 2000000 in
theorem critPeaks_walk (A : Option Addr) (n c : Nat) (s : Int) (f : Nat → Nat) (w : World) (h : ListIn w A n f) (hs2 : s ≤ 9223372036854775807) :
    Calls Try.prog 15 #[.slice A n c, .int .i64 s] w fun e w' => e = .returned (.bool true) ∧ Below w.heap.size w w' := by
  by_cases hn : n ≤ 60
  · have l1 : ¬ (60 : Int) < n := by omega
    by_cases hm : 40 < s ∧ s ≤ 1000
    · obtain ⟨l2, l3⟩ := hm
      obtain ⟨x, z, _, hz, C1, _⟩ := peak_both n s f h.wf hs2
      obtain ⟨x', z', _, hz', _, C2⟩ := peak_both n 1 f h.wf (by omega)
      have e1 : stepsB s = true := by unfold stepsB; simp; omega
      have e2 : stepsB 1 = true := rfl
      have ez : z' = z := by rw [hz, hz', e1, e2]
      subst ez
      have D1 := Lib.hid (C1 w A c h)
      have D2 := Lib.hid (fun W hW => C2 W A c (h.below hW))
      clear h hz hz' e1 e2 C1 C2
      go_enter Try.func15, Try.ntmps15
      go_wp2_with fail
      refine D1.out.mono ?_
      rintro e w1 ⟨rfl, hb1⟩
      go_wp2_with fail
      refine (D2.out w1 hb1).mono ?_
      rintro e w2 ⟨rfl, hb2⟩
      go_wp2_with (go_at_call 45; refine (works32_any _).mono ?_; rintro e w3 ⟨rfl, hb3⟩)
      go_ret
      exact ⟨rfl, (hb1.trans (hb2.mono hb1.size)).trans (hb3.mono (Nat.le_trans hb1.size hb2.size))⟩
    · have hor : ¬ (40 : Int) < s ∨ ((40 : Int) < s ∧ ¬ s ≤ 1000) := by omega
      obtain ⟨x, z, hx, hz, C1, C2⟩ := peak_both n s f h.wf hs2
      have o1 := feq_self hx
      have D1 := Lib.hid (C1 w A c h)
      have D2 := Lib.hid (fun W hW => C2 W A c (h.below hW))
      clear h hz C1 C2 hm hx
      rcases hor with l2 | ⟨l2, l3⟩
      all_goals
        go_enter Try.func15, Try.ntmps15
        go_wp2_with fail
        refine D1.out.mono ?_
        rintro e w1 ⟨rfl, hb1⟩
        go_wp2_with fail
        refine (D2.out w1 hb1).mono ?_
        rintro e w2 ⟨rfl, hb2⟩
        go_wp2_with (go_at_call 45; refine (works32_any _).mono ?_; rintro e w3 ⟨rfl, hb3⟩)
        go_ret
        exact ⟨rfl, (hb1.trans (hb2.mono hb1.size)).trans (hb3.mono (Nat.le_trans hb1.size hb2.size))⟩
  · have l1 : (60 : Int) < n := by omega
    go_enter Try.func15, Try.ntmps15
    go_wp2_with (go_at_call 45; refine (works32_any _).mono ?_; rintro e w1 ⟨rfl, hb1⟩)
    go_ret
    exact ⟨rfl, hb1⟩

/-! ### Crossings of the reference -/
/-- What a search for a crossing answers. -/
def CrossSays (x : Nat) (b : Bool) (z : Int) (w : World) (e : Ending) (w' : World) : Prop := e = .returned (.tuple #[.float .f64 x, .bool b, .int .i64 z]) ∧ Below w.heap.size w w'
theorem ord_excl (x y : Nat) (h : flt x y = true) : fgt x y = false := by
  unfold flt at h
  unfold fgt
  rw [beq_iff_eq] at h
  rw [h]; rfl
theorem sgn_eq {x y v z : Nat} (h : sgn x y = sgn v z) : flt x y = flt v z ∧ fgt x y = fgt v z := by
  unfold sgn at h
  cases h1 : flt x y <;> cases h2 : flt v z <;> cases h3 : fgt x y <;> cases h4 : fgt v z <;> rw [h1, h2, h3, h4] at h <;>
    first
    | exact ⟨rfl, rfl⟩
    | (exfalso; revert h; decide)
    | exact Bool.noConfusion ((ord_excl x y h1).symm.trans h3)
    | exact Bool.noConfusion ((ord_excl v z h2).symm.trans h4)
theorem sgn_ne {x y v z : Nat} (h : sgn x y ≠ sgn v z) : flt x y ≠ flt v z ∨ (flt x y = flt v z ∧ fgt x y ≠ fgt v z) := by
  by_cases h1 : flt x y = flt v z
  · refine .inr ⟨h1, fun h2 => h ?_⟩
    unfold sgn; rw [h1, h2]
  · exact .inl h1

set_option maxRecDepth 100000 in
set_option maxHeartbeats 8000000 in
theorem refCross_ok (A B : Option Addr) (n c m d s : Nat) (f g : Nat → Nat) (w : World) (h : ListIn w A n f) (hg : ListIn w B m g) (hl : listB n f = true) (hl2 : listB m g = true) (h1 : 1 ≤ s) (h2 : s ≤ 1000)
    (j : Nat) (hj : First (fun i => sgs f g n m s i = sgs f g n m s 0) (s + 1) j) :
    Calls Try.prog 49 #[.slice A n c, .slice B m d, .int .i64 (s : Nat)] w (CrossSays (if j ≤ s then pt s j else 0) (decide (j ≤ s)) 0 w) := by
  obtain ⟨q0, hq0⟩ : ∃ q0, q0 = (if j ≤ s then pt s j else 0) := ⟨_, rfl⟩
  obtain ⟨b0, hb0⟩ : ∃ b0, b0 = decide (j ≤ s) := ⟨_, rfl⟩
  rw [← hq0, ← hb0]
  have HQ := Lib.hid hq0
  have HD := Lib.hid hb0
  clear hq0 hb0
  have CG := Lib.hid (refGrid_ok s h1 h2 w)
  have CV := Lib.hid (fun W (hW : ListIn W A n f) => values_any A n c f W hW)
  have CU := Lib.hid (fun W (hW : ListIn W B m g) => values_any B m d g W hW)
  rw [hl] at CV
  rw [hl2] at CU
  have HA := Lib.hid h
  have HG := Lib.hid hg
  have CA := Lib.hid (fun W x (hW : ListIn W A n f) => ravp_any A n c s x f W hW hl h1 h2)
  have CB := Lib.hid (fun W x (hW : ListIn W B m g) => ravp_any B m d s x g W hW hl2 h1 h2)
  have HJ := Lib.hid hj
  clear h hg hl hl2 hj
  go_enter Try.func49, Try.ntmps49
  go_wp2_with fail
  refine CG.out.mono ?_
  rintro e w1 ⟨⟨G, cc, rfl, hrow⟩, hb1⟩
  obtain ⟨b, off, rfl, hb, hc⟩ := hrow (by omega)
  have HC := Lib.hid hc
  have L1 := Lib.hid (HA.out.below hb1)
  have L2 := Lib.hid (HG.out.below hb1)
  clear hrow hc CG
  go_wp2_with (first | (go_at_call_of 78 (Value.slice A n c); refine (CV.out _ L1.out).mono ?_; rintro e w' ⟨rfl, rfl⟩) | (go_at_call_of 78 (Value.slice B m d); refine (CU.out _ L2.out).mono ?_; rintro e w' ⟨rfl, rfl⟩))
  go_loopw [11] (fun i wr => ∃ k : Nat, k ≤ s ∧ k < j ∧ i = .int .i64 (k + 1 : Nat) ∧ Below w1.heap.size w1 wr) (fun i _ => s + 1 - (intOf i).toNat)
  case atStart =>
    refine ⟨0, Nat.zero_le _, ?_, rfl, Below.refl _ _⟩
    rcases Nat.eq_zero_or_pos j with h0 | h0
    · have := HJ.out.2.2 (by omega)
      rw [h0] at this
      exact absurd rfl this
    · exact h0
  case round =>
    obtain ⟨k, hk, hkj, rfl, hbel⟩ := hrel
    by_cases hks : k < s
    · have c1 := fun W (hW : Below wr.heap.size wr W) => (hW.cell (p := ⟨b, off + k, none⟩) (Nat.lt_of_lt_of_le hb hbel.size)).trans ((hbel.cell (p := ⟨b, off + k, none⟩) hb).trans (HC.out k (by omega)))
      have c2 := fun W (hW : Below wr.heap.size wr W) => (hW.cell (p := ⟨b, off + (k + 1), none⟩) (Nat.lt_of_lt_of_le hb hbel.size)).trans ((hbel.cell (p := ⟨b, off + (k + 1), none⟩) hb).trans (HC.out (k + 1) (by omega)))
      have K1 := Lib.hid c1
      have K2 := Lib.hid c2
      clear c1 c2
      have d0 := K1.out wr (Below.refl _ wr)
      have l1 : ((k + 1 : Nat) : Int) < (s : Int) + 1 := by omega
      have l2 : (k : Int) < (s : Int) + 1 := by omega
      have q1 : (0 : Int) ≤ (k : Int) + 1 := by omega
      have q2 : ((k : Int) + 1).toNat = k + 1 := by omega
      go_wp2_with fail
      refine (CA.out _ k (L1.out.below hbel)).mono ?_
      rintro e wa ⟨rfl, hba⟩
      have d1 := K1.out wa hba
      have Ha := Lib.hid hba
      clear d0 hba
      go_wp2_with fail
      refine (CB.out _ k (L2.out.below (hbel.trans (Ha.out.mono hbel.size)))).mono ?_
      rintro e wc ⟨rfl, hbc⟩
      have Hc := Lib.hid (Ha.out.trans (hbc.mono Ha.out.size))
      have d2 := K2.out wc Hc.out
      clear d1 hbc Ha
      go_wp2_with fail
      refine (CA.out _ (k + 1) (L1.out.below (hbel.trans (Hc.out.mono hbel.size)))).mono ?_
      rintro e wd ⟨rfl, hbd⟩
      have Hd := Lib.hid (Hc.out.trans (hbd.mono Hc.out.size))
      have d3 := K2.out wd Hd.out
      clear d2 hbd Hc
      go_wp2_with fail
      refine (CB.out _ (k + 1) (L2.out.below (hbel.trans (Hd.out.mono hbel.size)))).mono ?_
      rintro e we ⟨rfl, hbe⟩
      have He := Lib.hid (Hd.out.trans (hbe.mono Hd.out.size))
      have d4 := K2.out we He.out
      clear d3 hbe Hd
      by_cases heq : sgs f g n m s (k + 1) = sgs f g n m s k
      · have hkj2 : k + 1 < j ∨ j = k + 1 := by omega
        have hne : j ≠ k + 1 := fun h0 => by
          have h3 := HJ.out.2.2 (by omega)
          rw [h0] at h3
          exact h3 (heq.trans (HJ.out.2.1 k hkj))
        obtain ⟨e1, e2⟩ := sgn_eq ((sgs_def f g n m s (k + 1)).symm.trans (heq.trans (sgs_def f g n m s k)))
        have o1 : (FloatKind.f64.format.order (avs f n s k) (avs g m s k) == some Ordering.lt) = (FloatKind.f64.format.order (avs f n s (k + 1)) (avs g m s (k + 1)) == some Ordering.lt) := e1.symm
        have o2 : (FloatKind.f64.format.order (avs f n s k) (avs g m s k) == some Ordering.gt) = (FloatKind.f64.format.order (avs f n s (k + 1)) (avs g m s (k + 1)) == some Ordering.gt) := e2.symm
        have HK := Lib.hid (show k + 1 < j by omega)
        clear e1 e2 heq hkj2 hne d4
        go_wp2
        go_roundw
        case rel => exact ⟨k + 1, by omega, HK.out, by go_num, hbel.trans (He.out.mono hbel.size)⟩
        case measure => simp [intOf]; omega
      · have hjk : j = k + 1 := by
          rcases Nat.lt_or_ge (k + 1) j with h3 | h3
          · exact absurd ((HJ.out.2.1 (k + 1) h3).trans (HJ.out.2.1 k hkj).symm) heq
          · omega
        have HJK := Lib.hid (show j = k + 1 ∧ j ≤ s from ⟨hjk, by omega⟩)
        have hne := sgn_ne (fun h3 => heq ((sgs_def f g n m s (k + 1)).trans (h3.trans (sgs_def f g n m s k).symm)))
        clear heq hjk
        rcases hne with hne | ⟨h3, hne⟩
        · cases hx : flt (avs f n s (k + 1)) (avs g m s (k + 1)) <;> cases hy : flt (avs f n s k) (avs g m s k) <;> rw [hx, hy] at hne <;> first | exact absurd rfl hne | skip
          all_goals
            have o1 : (FloatKind.f64.format.order (avs f n s (k + 1)) (avs g m s (k + 1)) == some Ordering.lt) = _ := hx
            have o2 : (FloatKind.f64.format.order (avs f n s k) (avs g m s k) == some Ordering.lt) = _ := hy
            clear hx hy hne
            go_wp2
            go_ret3
            exact ⟨by rw [HQ.out, HD.out, if_pos HJK.out.2, decide_eq_true HJK.out.2, HJK.out.1]; rfl, hb1.trans ((hbel.trans (He.out.mono hbel.size)).mono hb1.size)⟩
        · have o1 : (FloatKind.f64.format.order (avs f n s k) (avs g m s k) == some Ordering.lt) = (FloatKind.f64.format.order (avs f n s (k + 1)) (avs g m s (k + 1)) == some Ordering.lt) := h3.symm
          cases hx : fgt (avs f n s (k + 1)) (avs g m s (k + 1)) <;> cases hy : fgt (avs f n s k) (avs g m s k) <;> rw [hx, hy] at hne <;> first | exact absurd rfl hne | skip
          all_goals
            have o3 : (FloatKind.f64.format.order (avs f n s (k + 1)) (avs g m s (k + 1)) == some Ordering.gt) = _ := hx
            have o4 : (FloatKind.f64.format.order (avs f n s k) (avs g m s k) == some Ordering.gt) = _ := hy
            clear hx hy hne h3
            go_wp2
            go_ret3
            exact ⟨by rw [HQ.out, HD.out, if_pos HJK.out.2, decide_eq_true HJK.out.2, HJK.out.1]; rfl, hb1.trans ((hbel.trans (He.out.mono hbel.size)).mono hb1.size)⟩
    · have hkk : k = s := by omega
      have l1 : ¬ ((k + 1 : Nat) : Int) < (s : Int) + 1 := by omega
      have HJK := Lib.hid (show ¬ j ≤ s by have := HJ.out.1; omega)
      go_wp2
      go_ret3
      exact ⟨by rw [HQ.out, HD.out, if_neg HJK.out, decide_eq_false HJK.out]; rfl, hb1.trans (hbel.mono hb1.size)⟩
end Go.Proofs.Ytcgoicijbmhmpaa
