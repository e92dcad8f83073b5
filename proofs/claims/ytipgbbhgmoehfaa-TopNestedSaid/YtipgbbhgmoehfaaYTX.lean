import Derived.Test.YtipgbbhgmoehfaaYCB
import Derived.Test.YtipgbbhgmoehfaaYPM
import Derived.Test.YtipgbbhgmoehfaaYPT
import Derived.Test.YtipgbbhgmoehfaaYP
import Derived.Test.YtipgbbhgmoehfaaYE3
/-
  The walk of TopNested.
-/
namespace Go.Proofs.Ytipgbbhgmoehfaa
open Go.RowKit
attribute [local go_sem] Oper.semAt_some
set_option linter.unusedSimpArgs false
set_option linter.unusedVariables false
set_option linter.unusedSectionVars false

set_option maxRecDepth 100000 in
set_option maxHeartbeats 2000000 in
theorem tsame_any (g1 g2 n c1 c2 : Nat) (f : Nat → Nat) (w : World) (h1 : Row w g1 n f) (h2 : Row w g2 n f) (hn : n ≤ 65536) :
    Calls Try.prog 24 #[.slice (some ⟨g1, 0, none⟩) n c1, .slice (some ⟨g2, 0, none⟩) n c2] w fun e w' => e = .returned (.bool true) ∧ Only [] w w' := by
  have H1 := Lib.hid h1
  have H2 := Lib.hid h2
  have q0 : ((n : Int) != (n : Int)) = false := by simp
  clear h1 h2
  go_enter Try.func24, Try.ntmps24
  go_wp2_with fail
  go_loopw [5] (fun y wr => ∃ i : Nat, i ≤ n ∧ y = .int .i64 i ∧ Hid (Only [] w wr)) (fun y _ => n - (intOf y).toNat)
  case atStart => exact ⟨0, Nat.zero_le _, rfl, Lib.hid (Only.refl _ _)⟩
  case round =>
    obtain ⟨i, hi, rfl, hO⟩ := hrel
    by_cases hlt : i < n
    · have k1 := (H1.out.only hO.out (by simp)).cell hlt
      have k2 := (H2.out.only hO.out (by simp)).cell hlt
      obtain ⟨y, hy⟩ : ∃ y, f i = y := ⟨_, rfl⟩
      rw [hy] at k1 k2
      have q3 : ((y : Int) != (y : Int)) = false := by simp
      clear hy
      go_wp2_with fail
      go_quiet (fail)
      go_wp2_with fail
      exact ⟨⟨i + 1, by omega, by go_num, Lib.hid (hO.out.drewN _)⟩, by simp [intOf]; omega⟩
    · obtain rfl : i = n := by omega
      go_wp2_with fail
      go_ret
      exact ⟨rfl, hO.out⟩
set_option maxRecDepth 100000 in
set_option maxHeartbeats 2000000 in
theorem works25_any (w : World) : Calls Try.prog 19 #[] w fun e w' => e = .returned (.bool true) ∧ Only [] w w' := by
  go_enter Try.func19, Try.ntmps19
  go_wp2_with fail
  obtain ⟨W2, hW2⟩ : ∃ W2, (w.alloc (.cells #[.int .i64 0, .int .i64 1] 3)).alloc (.cells #[.int .i64 0, .int .i64 0] 3) = W2 := ⟨_, rfl⟩
  have b2 : W2.heap[w.heap.size + 1]? = some (.cells #[.int .i64 0, .int .i64 0] 3 (0, 0)) := by
    have := heap_alloc_new (w.alloc (.cells #[.int .i64 0, .int .i64 1] 3)) (.cells #[.int .i64 0, .int .i64 0] 3)
    rw [World.size_alloc, hW2] at this
    exact this
  have b1 : W2.heap[w.heap.size]? = some (.cells #[.int .i64 0, .int .i64 1] 3 (0, 0)) := by
    rw [← hW2]
    exact (heap_alloc_old _ _ (by rw [World.size_alloc]; omega)).trans (heap_alloc_new w _)
  have hO2 : Only [] w W2 := hW2 ▸ ((Only.refl [] w).alloc _).alloc _
  have r1 : Row W2 w.heap.size 2 id := ⟨_, b1, fun i hi => by
    have : i = 0 ∨ i = 1 := by omega
    rcases this with rfl | rfl <;> rfl⟩
  have r2 : Row W2 (w.heap.size + 1) 2 (fun _ => 0) := ⟨_, b2, fun i hi => by
    have : i = 0 ∨ i = 1 := by omega
    rcases this with rfl | rfl <;> rfl⟩
  have CR := Lib.hid (Refines_any w.heap.size (w.heap.size + 1) 2 2 2 id (fun _ => 0) W2 r1 r2 (Labs.id 2) (fun a _ => ⟨Nat.zero_le _, rfl⟩) (fun _ _ => rfl) (by omega))
  have HO2 := Lib.hid hO2
  try rw [World.size_alloc]
  rw [hW2]
  clear r1 r2 hO2 b1 b2 hW2
  refine CR.out.mono ?_
  rintro e w' ⟨rfl, hO⟩
  have HO := Lib.hid (HO2.out.trans hO)
  clear hO CR
  go_wp2_with fail
  go_ret
  exact ⟨rfl, HO.out⟩

set_option maxRecDepth 100000 in
set_option maxHeartbeats 8000000 in
theorem topNested_walk (n : Int) (A : Option Addr) (m cp : Nat) (u v x : Nat → Int) (a b : Int) (w : World) (h : TripsIn w .i64 A m u v x) :
    Calls Try.prog 5 #[.int .i64 n, .slice A m cp, .int .i64 a, .int .i64 b] w fun e w' => e = .returned (.bool true) ∧ Below w.heap.size w w' := by
  refine Calls.mono (R := fun e w' => e = .returned (.bool true) ∧ Only [] w w') ?_ fun e w' h => ⟨h.1, h.2.toBelow⟩
  have HE := Lib.hid h.edges
  obtain ⟨k, hk⟩ := gcode_is n m u v
  have CN := Lib.hid (CNew_any n A m cp u v x w HE.out k hk)
  clear h hk
  go_enter Try.func5, Try.ntmps5
  go_wp2_with fail
  refine CN.out.mono ?_
  rintro e w1 ⟨hO1, ⟨h0, rfl⟩ | ⟨rfl, n, o, c, s, L, R, P, H, Z, VB, TT, LS, rfl, hb, hc, hlt, rfl, hV⟩⟩
  · have q1 : (k != 0) = true := by simpa using h0
    have HO1 := Lib.hid hO1
    clear hO1 CN
    go_wp2_with fail
    refine (works25_any _).mono ?_
    rintro e w2 ⟨rfl, hO⟩
    have HO := Lib.hid (HO1.out.trans hO)
    clear hO
    go_wp2_with fail
    go_ret
    exact ⟨rfl, HO.out⟩
  have HO1 := Lib.hid hO1
  have HV := Lib.hid hV
  have HB := Lib.hid (And.intro hb (And.intro hc hlt))
  clear hO1 CN hV hb hc hlt
  by_cases hbad : 40 < n ∨ (¬ 40 < n ∧ 120 < m) ∨ (¬ 40 < n ∧ ¬ 120 < m ∧ b < a)
  · have hfin : ∀ wx, Only [] w wx → True := fun _ _ => trivial
    rcases hbad with h1 | ⟨h1, h2⟩ | ⟨h1, h2, h3⟩
    · have i1 : (40 : Int) < (n : Int) := by omega
      go_wp2_with fail
      refine (works25_any _).mono ?_
      rintro e w2 ⟨rfl, hO⟩
      have HO := Lib.hid (HO1.out.trans hO)
      clear hO
      go_wp2_with fail
      go_ret
      exact ⟨rfl, HO.out⟩
    · have i1 : ¬ (40 : Int) < (n : Int) := by omega
      have i2 : (120 : Int) < (m : Int) := by omega
      go_wp2_with fail
      refine (works25_any _).mono ?_
      rintro e w2 ⟨rfl, hO⟩
      have HO := Lib.hid (HO1.out.trans hO)
      clear hO
      go_wp2_with fail
      go_ret
      exact ⟨rfl, HO.out⟩
    · have i1 : ¬ (40 : Int) < (n : Int) := by omega
      have i2 : ¬ (120 : Int) < (m : Int) := by omega
      go_wp2_with fail
      refine (works25_any _).mono ?_
      rintro e w2 ⟨rfl, hO⟩
      have HO := Lib.hid (HO1.out.trans hO)
      clear hO
      go_wp2_with fail
      go_ret
      exact ⟨rfl, HO.out⟩
  have i1 : ¬ (40 : Int) < (n : Int) := by omega
  have i2 : ¬ (120 : Int) < (m : Int) := by omega
  have i3 : ¬ b < a := by omega
  have hn : n ≤ 65536 := by omega
  obtain ⟨ka, ka0, ka1, ka2, _⟩ := fl_theta HB.out.1 a (p := nat u) (q := nat v)
  obtain ⟨kb, kb0, kb1, kb2, _⟩ := fl_theta HB.out.1 b (p := nat u) (q := nat v)
  rw [HB.out.2.1] at ka0 kb0 ka2 kb2
  have hkab : ka ≤ kb := by
    by_cases e : ka ≤ kb
    · exact e
    · have h1 := ka1 kb (by omega)
      have h2 := kb2 kb (Nat.le_refl _) (by omega)
      omega
  have CLa := Lib.hid (fun W (hO : Only [] w1 W) => CLabels_any (HV.out.only hO) a ka ka0 ka1 ka2)
  have CLb := Lib.hid (fun W (hO : Only [] w1 W) => CLabels_any (HV.out.only hO) b kb kb0 kb1 kb2)
  have CC := Lib.hid (fun W (hO : Only [] w1 W) => CCount_any (HV.out.only hO) a ka ka0 ka1 ka2)
  have hm := HV.out.tin.ok.mrg
  have L1 := hm.labs ka0
  have L2 := hm.labs kb0
  have L3 := fun y (hy : y < n) => tlab_mono' hkab (L1 y hy).2
  have hz : a < 0 ∨ True := .inr trivial
  obtain ⟨f1, hf1⟩ : ∃ f1, tlab (fun i => nat u (sel (fl (nat u) (nat v) o m) i)) (fun i => nat v (sel (fl (nat u) (nat v) o m) i)) ka = f1 := ⟨_, rfl⟩
  obtain ⟨f2, hf2⟩ : ∃ f2, tlab (fun i => nat u (sel (fl (nat u) (nat v) o m) i)) (fun i => nat v (sel (fl (nat u) (nat v) o m) i)) kb = f2 := ⟨_, rfl⟩
  have H0 := Lib.hid (show (∀ j, j < m → a < x j) → f1 = id from fun hall => by
    have e : ka = 0 := by
      by_cases e : ka = 0
      · exact e
      · have h1 := ka1 0 (by omega)
        have h2 := hall _ (fl_mem (p := nat u) (q := nat v) (o := o) HB.out.1.lt (Nat.le_refl _) (sel_at (l := fl (nat u) (nat v) o m) (j := 0) (by rw [HB.out.2.1]; omega)))
        omega
    rw [← hf1, e]
    rfl)
  rw [hf1] at CLa CC L1 L3
  rw [hf2] at CLb L2 L3
  have HL := Lib.hid (And.intro L1 (And.intro L2 L3))
  clear hm L1 L2 L3 hf1 hf2 ka1 ka2 kb1 kb2 hz hbad ka0 kb0 hkab HB
  go_wp2_with fail
  refine (CLa.out _ (Only.refl _ _)).mono ?_
  rintro e w2 ⟨g1, c1, rfl, hR1, hg1, hO2⟩
  have HR1 := Lib.hid hR1
  have HO2 := Lib.hid hO2
  clear hR1 hO2 CLa
  go_wp2_with fail
  refine (CLb.out _ HO2.out).mono ?_
  rintro e w3 ⟨g2, c2, rfl, hR2, hg2, hO3⟩
  have HR1 := Lib.hid (HR1.out.only hO3 (by simp))
  have HR2 := Lib.hid hR2
  have HO3 := Lib.hid (HO2.out.trans hO3)
  have CR := Lib.hid (Refines_any g1 g2 n c1 c2 f1 f2 w3 HR1.out HR2.out HL.out.1 HL.out.2.1 HL.out.2.2 hn)
  clear hR2 hO3 CLb HO2
  go_wp2_with fail
  refine CR.out.mono ?_
  rintro e w4 ⟨rfl, hO4⟩
  have HR1 := Lib.hid (HR1.out.only hO4 (by simp))
  have HR2 := Lib.hid (HR2.out.only hO4 (by simp))
  have HO4 := Lib.hid (HO3.out.trans hO4)
  have CM := Lib.hid (Meet_any g1 g2 n c1 c2 f1 f2 w4 HR1.out HR2.out HL.out.1 HL.out.2.1 HL.out.2.2 hn)
  clear hO4 CR HO3
  go_wp2_with fail
  refine CM.out.mono ?_
  rintro e w5 ⟨g3, rfl, hR3, _, hO5⟩
  have HR1 := Lib.hid (HR1.out.only hO5 (by simp))
  have HR2 := Lib.hid (HR2.out.only hO5 (by simp))
  have HR3 := Lib.hid hR3
  have HO5 := Lib.hid (HO4.out.trans hO5)
  have CJ := Lib.hid (Join_any g1 g2 n c1 c2 f1 f2 w5 HR1.out HR2.out HL.out.1 HL.out.2.1 HL.out.2.2 hn)
  clear hR3 hO5 CM HO4
  go_wp2_with fail
  refine CJ.out.mono ?_
  rintro e w6 ⟨g4, rfl, hR4, _, hO6⟩
  have HR1 := Lib.hid (HR1.out.only hO6 (by simp))
  have HR2 := Lib.hid (HR2.out.only hO6 (by simp))
  have HR3 := Lib.hid (HR3.out.only hO6 (by simp))
  have HR4 := Lib.hid hR4
  have HO6 := Lib.hid (HO5.out.trans hO6)
  have CS := Lib.hid (tsame_any g3 g1 n n c1 f1 w6 HR3.out HR1.out hn)
  clear hR4 hO6 CJ HO5
  go_wp2_with fail
  refine CS.out.mono ?_
  rintro e w7 ⟨rfl, hO7⟩
  have CS2 := Lib.hid (tsame_any g4 g2 n n c2 f2 w7 (HR4.out.only hO7 (by simp)) (HR2.out.only hO7 (by simp)) hn)
  have HO7 := Lib.hid (HO6.out.trans hO7)
  clear hO7 CS HO6
  go_wp2_with fail
  refine CS2.out.mono ?_
  rintro e w8 ⟨rfl, hO8⟩
  have HO8 := Lib.hid (HO7.out.trans hO8)
  have HO9 := Lib.hid (HO1.out.trans HO8.out)
  clear hO8 CS2 HO7 HR1 HR2 HR3 HR4
  go_wp2_with fail
  go_loopw [18, 19] (fun l y wr => ∃ (i : Nat) (lv : Int), i ≤ m ∧ y = .int .i64 i ∧ l = .int .i64 lv ∧ Hid (∀ j, j < i → lv ≤ x j) ∧ Hid (Only [] w8 wr)) (fun _ y _ => m - (intOf y).toNat)
  case atStart => exact ⟨0, _, Nat.zero_le _, rfl, rfl, Lib.hid (fun j hj => absurd hj (Nat.not_lt_zero j)), Lib.hid (Only.refl _ _)⟩
  case round =>
    obtain ⟨i, lv, hi, rfl, rfl, HLv, HO⟩ := hrel
    by_cases him : i < m
    · obtain ⟨b0, off, rfl, _, _, e2⟩ := (HE.out.only (HO9.out.trans HO.out)).cell him
      obtain ⟨xi, hxi⟩ : ∃ xi, x i = xi := ⟨_, rfl⟩
      rw [hxi] at e2
      have HX := Lib.hid hxi
      clear hxi
      go_wp2_with fail
      exact ⟨⟨i + 1, _, by omega, by go_num, rfl, Lib.hid (fun j hj => by
        have hx := HX.out
        by_cases e : j = i
        · rw [e, hx]; omega
        · have := HLv.out j (by omega); omega), HO⟩, by simp [intOf]; omega⟩
    · obtain rfl : i = m := by omega
      have HOz := Lib.hid (HO9.out.trans HO.out)
      by_cases hA : 0 < i ∧ lv ≤ a
      · have q1 : (0 : Int) < (i : Int) := by omega
        have q2 := hA.2
        clear hA
        go_wp2_with fail
        refine (works25_any _).mono ?_
        rintro e wz ⟨rfl, hOz⟩
        have HOy := Lib.hid (HOz.out.trans hOz)
        clear hOz
        go_wp2_with fail
        go_ret
        exact ⟨rfl, HOy.out⟩
      · have hid : f1 = id := H0.out (fun j hj => by
          have := HLv.out j hj
          omega)
        have CC2 := Lib.hid (CC.out _ (HO8.out.trans HO.out))
        rw [hid, roots_id] at CC2
        have q0 : ((n : Int) == (n : Int)) = true := by simp
        clear hid
        by_cases hm0 : 0 < i
        · have q1 : (0 : Int) < (i : Int) := by omega
          have q2 : ¬ lv ≤ a := fun e => hA ⟨hm0, e⟩
          clear hA
          go_wp2_with fail
          refine CC2.out.mono ?_
          rintro e wy ⟨rfl, hOy⟩
          have HOy := Lib.hid (HOz.out.trans hOy)
          clear hOy CC2
          go_wp2_with fail
          refine (works25_any _).mono ?_
          rintro e wz ⟨rfl, hOz⟩
          have HOx := Lib.hid (HOy.out.trans hOz)
          clear hOz
          go_wp2_with fail
          go_ret
          exact ⟨rfl, HOx.out⟩
        · have q1 : ¬ (0 : Int) < (i : Int) := by omega
          clear hA
          go_wp2_with fail
          refine CC2.out.mono ?_
          rintro e wy ⟨rfl, hOy⟩
          have HOy := Lib.hid (HOz.out.trans hOy)
          clear hOy CC2
          go_wp2_with fail
          refine (works25_any _).mono ?_
          rintro e wz ⟨rfl, hOz⟩
          have HOx := Lib.hid (HOy.out.trans hOz)
          clear hOz
          go_wp2_with fail
          go_ret
          exact ⟨rfl, HOx.out⟩

end Go.Proofs.Ytipgbbhgmoehfaa
