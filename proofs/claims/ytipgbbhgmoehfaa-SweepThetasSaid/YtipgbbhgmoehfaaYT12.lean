import Derived.StillTailTactics
import Derived.BigQuiet
import Derived.Test.YtipgbbhgmoehfaaYE9
import Derived.Test.YtipgbbhgmoehfaaYQ
/-
  SweepThetas: the walk.
-/
namespace Go.Proofs.Ytipgbbhgmoehfaa
open Go.RowKit
attribute [local go_sem] Oper.semAt_some
set_option linter.unusedSimpArgs false
set_option linter.unusedSectionVars false

set_option maxRecDepth 100000 in
set_option maxHeartbeats 8000000 in
theorem sweepThetas_walk (n : Int) (E : Option Addr) (len cap : Nat) (u v x : Nat → Int) (w : World) (hn : (Lit.int .u8 n).wf = true) (h : TripsIn w .u8 E len u v x) :
    Calls Try.prog 3 #[.int .u8 n, .slice E len cap] w fun e w' => e = .returned (.bool true) ∧ Below w.heap.size w w' := by
  refine Calls.mono (R := fun e w' => e = .returned (.bool true) ∧ Only [] w w') ?_ fun e w' h => ⟨h.1, h.2.toBelow⟩
  have CD := Lib.hid (drawn_any n hn E len cap u v x w h)
  clear hn h
  go_enter Try.func3, Try.ntmps3
  go_wp2_with fail
  refine CD.out.mono ?_
  rintro e w1 ⟨m, k, A, c, U, V, X, rfl, hm, hk, hG, hE, hO⟩
  have CL := Lib.hid (dlevels_any m k A c U V X w1 hm hk hG hE)
  have HG := Lib.hid hG
  have HE := Lib.hid hE
  have HO := Lib.hid hO
  clear hG hE hO CD
  go_wp2_with fail
  refine CL.out.mono ?_
  rintro e w2 ⟨r, AL, cl, rfl, hO2, hQ⟩
  have HE2 := Lib.hid (HE.out.only hO2)
  have CO := Lib.hid (Order_any A k c U V X w2 HE2.out (by omega))
  have HO2 := Lib.hid (HO.out.trans hO2)
  have HQ := Lib.hid hQ
  clear hO2 hQ CL HE HO
  go_wp2_with fail
  refine CO.out.mono ?_
  rintro e w3 ⟨g, o, rfl, hR, hb, _, hO3⟩
  have hI := hR.ints (fun j hj => by have := hb.lt hj; omega) (by unfold maxLen; omega)
  have ho : Ordered k k (fun j => ((o j : Nat) : Int)) := ⟨fun i hi => by
    have := hb.lt hi
    show (0 : Int) ≤ ((o i : Nat) : Int) ∧ ((o i : Nat) : Int) < k
    omega, fun i hi j hj e => by have := hb.inj (by omega) hi (Int.ofNat.inj e); omega⟩
  have hno : nat (fun j => ((o j : Nat) : Int)) = o := by
    funext j
    exact Int.toNat_natCast _
  have CR := Lib.hid (drows_any m k k A (some ⟨g, 0, none⟩) c k U V X _ w3 hm hk HG.out (HE2.out.only hO3) hI ho (Nat.le_refl _))
  rw [hno] at CR
  have HE3 := Lib.hid (HE2.out.only hO3)
  have HI3 := Lib.hid hI
  obtain ⟨hq1, hq2⟩ := HQ.out o hb
  have HQ3 := Lib.hid (hq2.only hO3)
  have HO3 := Lib.hid (HO2.out.trans hO3)
  have HBw := Lib.hid hb
  have HRl := Lib.hid hq1
  have hrk : r ≤ k := by rw [← hq1]; exact ends_len k X o k
  clear hR hb hO3 hI ho hno hq1 hq2 HQ CO HE2 HO2
  go_wp2_with fail
  refine CR.out.mono ?_
  rintro e w4 ⟨AR, cr, rfl, hR4, hO4⟩
  have HE4 := Lib.hid (HE3.out.only hO4)
  have HI4 := Lib.hid (HI3.out.only hO4)
  have HQ4 := Lib.hid (HQ3.out.only hO4)
  have HO4 := Lib.hid (HO3.out.trans hO4)
  have HR4 := Lib.hid hR4
  have CN := Lib.hid (GNew_any m A k c U V X w4 HE4.out 0 (HG.out.code hm hk))
  clear hR4 hO4 CR HE3 HI3 HQ3 HO3
  go_wp2_with fail
  refine CN.out.mono ?_
  rintro e w5 ⟨hO5, ⟨h0, _⟩ | ⟨_, G, Sx, Lx, Ax, cx, fs, rfl, HBl⟩⟩
  · exact absurd rfl h0
  have HGa := Lib.hid (show GAt w5 G m k U V X from ⟨Sx, Lx, Ax, cx, HBl.out.1.head, HBl.out.2⟩)
  have HE5 := Lib.hid (HE4.out.only hO5)
  have HI5 := Lib.hid (HI4.out.only hO5)
  have HQ5 := Lib.hid (HQ4.out.only hO5)
  have HO5 := Lib.hid (HO4.out.trans hO5)
  have HR5 := Lib.hid (HR4.out.only hO5)
  clear hO5 HBl CN HE4 HI4 HQ4 HO4 HR4
  go_wp2_with fail
  go_loopw [74] (fun i wr => ∃ t : Nat, t ≤ k ∧ i = .int .i64 t ∧ wr = w5) (fun i _ => k - (intOf i).toNat)
  case atStart => exact ⟨0, Nat.zero_le _, rfl, rfl⟩
  case round =>
    obtain ⟨t, ht, rfl, rfl⟩ := hrel
    by_cases hlt : t < k
    · have hob := HBw.out.lt hlt
      obtain ⟨b0, o0, e0, c0⟩ := HI5.out.cell hlt
      cases e0
      obtain ⟨a, ha⟩ : ∃ a, o t = a := ⟨_, rfl⟩
      rw [ha] at c0 hob
      rw [Nat.zero_add] at c0
      clear ha
      go_wp2_with fail
      exact ⟨⟨t + 1, by omega, by go_num, by trivial⟩, by simp [intOf]; omega⟩
    · obtain rfl : t = k := by omega
      rename World => W5
      clear hlt ht
      go_wp2_with fail
      go_loopw [16, 89] (fun y i wr => ∃ j : Nat, j ≤ r ∧ i = .int .i64 j ∧ y = .int .i64 (endAt t X o j) ∧ Hid (Only [] W5 wr)) (fun _ i _ => r - (intOf i).toNat)
      case atStart => exact ⟨0, Nat.zero_le _, rfl, rfl, Lib.hid (Only.refl _ _)⟩
      case round =>
        obtain ⟨j, hj, rfl, rfl, HO6⟩ := hrel
        by_cases hlt : j < r
        · have hjl : j < (ends t X o t).length := by have := HRl.out; omega
          have HQ6 := Lib.hid (HQ5.out.only HO6.out)
          obtain ⟨gL, rfl, hc⟩ := HQ6.out (by omega)
          obtain ⟨c0, c1, c2, c3⟩ := hc j hlt
          have h1 := endAt_lt (m := t) (x := X) (o := o) (show j < j + 1 by omega) (by omega)
          have h2 := endAt_le (m := t) (x := X) (o := o) (i := j + 1) (by omega)
          have HTh := Lib.hid (show ∀ l, endAt t X o j ≤ l → l < endAt t X o (j + 1) → X (o l) = thAt t X o j from fun l g1 g2 => thAt_eq hjl (endAt t X o (j + 1) - 1 - l) l (by omega) g1)
          have HTn := Lib.hid (show ∀ l, endAt t X o (j + 1) ≤ l → l < t → thAt t X o j < X (o l) from fun l g1 g2 => thAt_next HBw.out hjl g1 g2)
          have HTp := Lib.hid (show ∀ p, j = p + 1 → thAt t X o p < thAt t X o j from fun p hp => by
            subst hp
            rw [← HTh.out (endAt t X o (p + 1)) (Nat.le_refl _) h1]
            exact thAt_next HBw.out (by omega) (Nat.le_refl _) (by omega))
          have HPc := Lib.hid (show ∀ p, j = p + 1 → wr.cell? ⟨gL, p * 4, none⟩ = some (.int .i64 (thAt t X o p)) from fun p hp => (hc p (by omega)).1)
          clear hc HQ6
          go_upto_region 18 with (fail)
          have k0 : (wr.alloc (.cells #[.int .i64 (thAt t X o j), .int .i64 (rA m (nat U) (nat V) o one (endAt t X o (j + 1))), .int .i64 (rB m (nat U) (nat V) o (endAt t X o (j + 1))), .int .i64 (rC m (nat U) (nat V) o one (endAt t X o (j + 1)))] 41)).heap[wr.heap.size]? = some (.cells #[.int .i64 (thAt t X o j), .int .i64 (rA m (nat U) (nat V) o one (endAt t X o (j + 1))), .int .i64 (rB m (nat U) (nat V) o (endAt t X o (j + 1))), .int .i64 (rC m (nat U) (nat V) o one (endAt t X o (j + 1)))] 41 (0, 0)) := heap_alloc_new wr _
          have HOa := (Only.refl [] wr).alloc (.cells #[.int .i64 (thAt t X o j), .int .i64 (rA m (nat U) (nat V) o one (endAt t X o (j + 1))), .int .i64 (rB m (nat U) (nat V) o (endAt t X o (j + 1))), .int .i64 (rC m (nat U) (nat V) o one (endAt t X o (j + 1)))] 41)
          obtain ⟨W6, hW6⟩ : ∃ W6, wr.alloc (.cells #[.int .i64 (thAt t X o j), .int .i64 (rA m (nat U) (nat V) o one (endAt t X o (j + 1))), .int .i64 (rB m (nat U) (nat V) o (endAt t X o (j + 1))), .int .i64 (rC m (nat U) (nat V) o one (endAt t X o (j + 1)))] 41) = W6 := ⟨_, rfl⟩
          obtain ⟨B, hB⟩ : ∃ B, wr.heap.size = B := ⟨_, rfl⟩
          rw [hW6, hB] at k0
          rw [hW6] at HOa
          rw [hW6, hB]
          have HPc := Lib.hid (fun p hp => (World.cell?_of_block (w := wr) (w' := W6) (a := ⟨gL, p * 4, none⟩) (HOa.block gL (cell_lt' (HPc.out p hp)) (by simp))).trans (HPc.out p hp))
          have HO6 := Lib.hid (HO6.out.trans HOa)
          have HK := Lib.hid k0
          clear hW6 hB HOa k0 c0 c1 c2 c3
          obtain ⟨s0, hs0⟩ : ∃ s0, endAt t X o j = s0 := ⟨_, rfl⟩
          obtain ⟨th, hth⟩ : ∃ th, thAt t X o j = th := ⟨_, rfl⟩
          obtain ⟨s1, hs1⟩ : ∃ s1, endAt t X o (j + 1) = s1 := ⟨_, rfl⟩
          rw [hs0, hs1] at h1
          rw [hs1] at h2
          rw [hs0, hs1, hth] at HTh
          rw [hs1, hth] at HTn
          rw [hth] at HTp
          rw [hth, hs1] at HK
          rw [hs0]
          have HEQ := Lib.hid (And.intro hs1 hth)
          have d0 := cell_of_heap (i := 0) HK.out rfl
          clear hs0 hs1 hth
          have hj1 : j ≤ 200 := by omega
          rcases Nat.eq_zero_or_pos j with h0 | h0
          have q5 : decide (0 < j) = false := decide_eq_false (by omega)
          clear h0
          focus
            go_quiet (fail)
            go_upto_region 20 with (fail)
          obtain ⟨W7, hW7⟩ : ∃ W7, W6.drewN nq = W7 := ⟨_, rfl⟩
          have HO7 := Lib.hid (show Only [] W6 W7 from hW7 ▸ (Only.refl [] W6).drewN nq)
          rw [hW7]
          clear hW7 q5
          rotate_left
          obtain ⟨p, hp⟩ : ∃ p, j = p + 1 := ⟨j - 1, by omega⟩
          have q5 : decide (0 < j) = true := decide_eq_true h0
          have c0 := HPc.out p hp
          have hlp := HTp.out p hp
          obtain ⟨tp, htp⟩ : ∃ tp, thAt t X o p = tp := ⟨_, rfl⟩
          rw [htp] at c0 hlp
          have q6 : decide (th ≤ tp) = false := decide_eq_false (by omega)
          have q6' : ¬ th ≤ tp := by omega
          have q7 : (j : Int) - 1 = (p : Int) := by omega
          have hpr : p < r := by omega
          have wp : IntKind.i64.wrap (p : Int) = (p : Int) := IntWalk.i64_in _ (by omega)
          clear h0 htp hlp hp
          focus
            go_quiet (fail)
            go_upto_region 20 with (fail)
          obtain ⟨W7, hW7⟩ : ∃ W7, W6.drewN nq = W7 := ⟨_, rfl⟩
          have HO7 := Lib.hid (show Only [] W6 W7 from hW7 ▸ (Only.refl [] W6).drewN nq)
          rw [hW7]
          clear hW7 q5 c0 q6 q6' q7 hpr wp
          all_goals
            have hs0t : s0 < t := by omega
            have hKc := fun (W : World) (hW : Only [] W6 W) => (hW.block B (heap_lt HK.out) (by simp)).trans HK.out
            have HKc := Lib.hid hKc
            have d7 := cell_of_heap (i := 0) (hKc W7 HO7.out) rfl
            have hot := HBw.out.lt hs0t
            obtain ⟨bo, oo, eo, co⟩ := (HI5.out.only (HO6.out.trans HO7.out)).cell hs0t
            cases eo
            rw [Nat.zero_add] at co
            obtain ⟨bE, oE, rfl, hbE, _, _, e2⟩ := (HE5.out.only (HO6.out.trans HO7.out)).cell hot
            rw [HTh.out s0 (Nat.le_refl _) h1] at e2
            obtain ⟨a, ha⟩ : ∃ a, o s0 = a := ⟨_, rfl⟩
            rw [ha] at co e2 hot
            have q1 : (th != th) = false := by simp
            have q2 : ((s0 : Int) == (t : Int)) = false := by simp; omega
            have HCl := Lib.hid (show ∀ W, Only [] W6 W → ∀ l, l < t → W.cell? ⟨g, l, none⟩ = some (.int .i64 (o l : Nat)) ∧ W.cell? ⟨bE, oE + o l * 3 + 2, none⟩ = some (.int .i64 (X (o l))) from fun W hW l hl => by
              obtain ⟨b', o', eq, c'⟩ := (HI5.out.only (HO6.out.trans hW)).cell hl
              cases eq
              rw [Nat.zero_add] at c'
              obtain ⟨b'', o'', eq, _, _, _, c''⟩ := (HE5.out.only (HO6.out.trans hW)).cell (HBw.out.lt hl)
              cases eq
              exact ⟨c', c''⟩)
            clear ha hKc d0
            go_quiet (fail)
            obtain ⟨W8, hW8⟩ : ∃ W8, W7.drewN nq = W8 := ⟨_, rfl⟩
            have HO8 := Lib.hid (show Only [] W6 W8 from hW8 ▸ HO7.out.drewN nq)
            rw [hW8]
            clear hW8 co e2 d7 q1 q2 hot HO7
            go_wp2_with fail
            go_loopw [16] (fun y wl => ∃ l nn : Nat, s0 ≤ l ∧ l ≤ s1 ∧ y = .int .i64 l ∧ wl = W8.drewN nn) (fun y _ => s1 - (intOf y).toNat)
            case atStart => exact ⟨s0, 0, Nat.le_refl _, by omega, rfl, rfl⟩
            case round =>
              obtain ⟨l, nn, hl0, hl1, rfl, rfl⟩ := hrel
              have hOl := HO8.out.drewN nn
              by_cases hls : l < s1
              · have hlt2 : l < t := by omega
                obtain ⟨co, e2⟩ := HCl.out W8 HO8.out l hlt2
                have d8 := cell_of_heap (i := 0) (HKc.out W8 HO8.out) rfl
                have hot := HBw.out.lt hlt2
                rw [HTh.out l hl0 hls] at e2
                obtain ⟨a, ha⟩ : ∃ a, o l = a := ⟨_, rfl⟩
                rw [ha] at co e2 hot
                have q1 : (th == th) = true := by simp
                have q2 : decide (l < t) = true := decide_eq_true hlt2
                clear ha
                go_wp2_with fail
                go_quiet (fail)
                go_wp2_with fail
                exact ⟨⟨l + 1, nn + nq, by omega, by omega, by go_num, by trivial⟩, by simp [intOf]; omega⟩
              · obtain rfl : l = s1 := by omega
                have HTl := Lib.hid (show X (o l) = X (o l) ∧ (l < t → th < X (o l)) from ⟨rfl, fun h => HTn.out l (Nat.le_refl _) h⟩)
                rcases Nat.lt_or_ge l t with hlt2 | hge
                obtain ⟨co, e2⟩ := HCl.out W8 HO8.out l hlt2
                have d8 := cell_of_heap (i := 0) (HKc.out W8 HO8.out) rfl
                have hot := HBw.out.lt hlt2
                have hxl := HTl.out.2 hlt2
                obtain ⟨xl, hxl2⟩ : ∃ xl, X (o l) = xl := ⟨_, rfl⟩
                rw [hxl2] at e2 hxl
                obtain ⟨a, ha⟩ : ∃ a, o l = a := ⟨_, rfl⟩
                rw [ha] at co e2 hot
                have q1 : (xl == th) = false := by simp; omega
                have q2 : decide (l < t) = true := decide_eq_true hlt2
                clear ha hxl hxl2 hl0 HTl
                focus
                  go_wp2_with fail
                  go_quiet (fail)
                  go_upto_region 24 with (fail)
                obtain ⟨W9, hW9⟩ : ∃ W9, (W8.drewN nn).drewN nq = W9 := ⟨_, rfl⟩
                have HO9 := Lib.hid (show Only [] W6 W9 from hW9 ▸ hOl.drewN nq)
                rw [hW9]
                clear hW9 q1 q2 hot co e2 d8 hlt2 hOl
                rotate_left
                have q2 : decide (l < t) = false := decide_eq_false (by omega)
                clear hl0 HTl
                focus
                  go_wp2_with fail
                  go_quiet (fail)
                  go_upto_region 24 with (fail)
                obtain ⟨W9, hW9⟩ : ∃ W9, (W8.drewN nn).drewN nq = W9 := ⟨_, rfl⟩
                have HO9 := Lib.hid (show Only [] W6 W9 from hW9 ▸ hOl.drewN nq)
                rw [hW9]
                clear hW9 q2 hge hOl
                all_goals
                  have CUn := Lib.hid (dunder_any hm hk HG.out (HGa.out.only (HO6.out.trans HO9.out)) th)
                  have d9 := cell_of_heap (i := 0) (HKc.out _ HO9.out) rfl
                  go_wp2_with fail
                  refine CUn.out.mono ?_
                  rintro e wA ⟨G', rfl, hOA, hrow⟩
                  have CRw := Lib.hid (fun W (hW : Only [] wA W) => hrow W hW o j HBw.out hjl HEQ.out.2)
                  rw [HEQ.out.1] at CRw
                  have HOA := Lib.hid (HO9.out.trans hOA)
                  obtain ⟨bR, oR, rfl, hbR, _, _, _⟩ := HR5.out.cell (show l < t + 1 by omega)
                  have HMc := Lib.hid (show ∀ W, Only [] wA W → (W.cell? ⟨B, 1, none⟩ = some (.int .i64 (rA m (nat U) (nat V) o one l)) ∧ W.cell? ⟨B, 1 + 1, none⟩ = some (.int .i64 (rB m (nat U) (nat V) o l)) ∧ W.cell? ⟨B, 1 + 2, none⟩ = some (.int .i64 (rC m (nat U) (nat V) o one l))) ∧
                      (W.cell? ⟨bR, oR + l * 3, none⟩ = some (.int .i64 (rA m (nat U) (nat V) o one l)) ∧ W.cell? ⟨bR, oR + l * 3 + 1, none⟩ = some (.int .i64 (rB m (nat U) (nat V) o l)) ∧ W.cell? ⟨bR, oR + l * 3 + 2, none⟩ = some (.int .i64 (rC m (nat U) (nat V) o one l))) from fun W hW => by
                    obtain ⟨b', o', hA, _, g0, g1, g2⟩ := (HR5.out.only (HO6.out.trans (HOA.out.trans hW))).cell (show l < t + 1 by omega)
                    cases hA
                    have hk := HKc.out W (HOA.out.trans hW)
                    exact ⟨⟨cell_of_heap (i := 1) hk rfl, cell_of_heap (i := 2) hk rfl, cell_of_heap (i := 3) hk rfl⟩, g0, g1, g2⟩)
                  obtain ⟨fj, hfj⟩ : ∃ fj, rA m (nat U) (nat V) o one l = fj := ⟨_, rfl⟩
                  obtain ⟨gj, hgj⟩ : ∃ gj, rB m (nat U) (nat V) o l = gj := ⟨_, rfl⟩
                  obtain ⟨sj, hsj⟩ : ∃ sj, rC m (nat U) (nat V) o one l = sj := ⟨_, rfl⟩
                  rw [hfj, hgj, hsj] at CRw HMc
                  clear hfj hgj hsj hOA hrow CUn d9 HO9
                  obtain ⟨⟨e0, e1, e2⟩, e3, e4, e5⟩ := HMc.out wA (Only.refl _ _)
                  have q1 : (fj == fj) = true := by simp
                  have q2 : (gj == gj) = true := by simp
                  have q3 : (sj == sj) = true := by simp
                  have i1 : l < t + 1 := by omega
                  have i0 : (0 : Int) ≤ (l : Int) := by omega
                  have i3 : (l : Int) < (t : Int) + 1 := by omega
                  go_wp2_with fail
                  go_region_held3 (fun w' => (w'.cell? ⟨B, 1, none⟩ = some (.int .i64 fj) ∧ w'.cell? ⟨B, 1 + 1, none⟩ = some (.int .i64 gj) ∧ w'.cell? ⟨B, 1 + 2, none⟩ = some (.int .i64 sj)) ∧ (w'.cell? ⟨bR, oR + l * 3, none⟩ = some (.int .i64 fj) ∧ w'.cell? ⟨bR, oR + l * 3 + 1, none⟩ = some (.int .i64 gj) ∧ w'.cell? ⟨bR, oR + l * 3 + 2, none⟩ = some (.int .i64 sj)))
                    (first | exact ⟨⟨e0, e1, e2⟩, e3, e4, e5⟩ | exact e0 | exact e1 | exact e2 | exact e3 | exact e4 | exact e5 | exact hS9 | exact hS9.1.1 | exact hS9.1.2.1 | exact hS9.1.2.2 | exact hS9.2.1 | exact hS9.2.2.1 | exact hS9.2.2.2)
                    ((first
                      | (go_at_call 12; refine (CRw.out _ ?_).mono ?_; (first | exact Only.refl _ _ | exact (Only.refl _ _).drewN 1); rintro e wB ⟨rfl, hOB⟩; have HOB := Lib.hid (((Only.refl [] wA).drewN 1).trans hOB); have hS9 := HMc.out wB HOB.out; clear hOB)))
                  all_goals
                    have HOz := Lib.hid (HO6.out.trans (HOA.out.trans HOB.out))
                    clear hS9 e0 e1 e2 e3 e4 e5 q1 q2 q3 i0 i1 i3 CRw HMc HOA HOB
                    go_wp2_with fail
                    exact ⟨⟨j + 1, by omega, by go_num, by rw [HEQ.out.1], HOz⟩, by simp [intOf]; omega⟩
        · have he : endAt t X o r = t := by rw [← HRl.out]; exact endAt_last
          obtain rfl : j = r := by omega
          rw [he]
          clear he
          go_wp2_with fail
          refine (sworks_any _).mono ?_
          rintro e w7 ⟨rfl, hO7⟩
          have HO7 := Lib.hid (HO5.out.trans (HO6.out.trans hO7))
          clear hO7
          go_wp2_with fail
          go_ret
          exact ⟨rfl, HO7.out⟩

end Go.Proofs.Ytipgbbhgmoehfaa
