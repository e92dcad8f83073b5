import Derived.Test.YtbafacdknaopjaaYE3
import Derived.Test.YtbafacdknaopjaaYQ
/-
  SweepGiants: the walk.
-/
namespace Go.Proofs.Ytbafacdknaopjaa
open Go.RowKit
attribute [local go_sem] Oper.semAt_some
set_option linter.unusedSimpArgs false
set_option linter.unusedSectionVars false

theorem Ordered.short {m r : Nat} {f : Nat → Int} (h : Ordered m r f) : r ≤ m :=
  pigeon m r (fun j => (f j).toNat) (fun i hi => by have := h.1 i hi; omega) (fun i hi k hk e => h.2 i hi k hk (by have := h.1 i hi; have := h.1 k (by omega); omega))
set_option maxRecDepth 100000 in
set_option maxHeartbeats 4000000 in
theorem sweepGiants_walk (n : Int) (E : Option Addr) (len cap : Nat) (u v x : Nat → Int) (P : Option Addr) (pl pc : Nat) (z : Nat → Int) (size : Int) (w : World) (hn : (Lit.int .u8 n).wf = true) (h : TripsIn w .u8 E len u v x) (hz : IntsIn w .u16 P pl z) :
    Calls Try.prog 20 #[.int .u8 n, .slice E len cap, .slice P pl pc, .int .i64 size] w fun e w' => e = .returned (.bool true) ∧ Below w.heap.size w w' := by
  refine Calls.mono (R := fun e w' => e = .returned (.bool true) ∧ Only [] w w') ?_ fun e w' h => ⟨h.1, h.2.toBelow⟩
  have CD := Lib.hid (drawn_any n hn E len cap u v x w h)
  have HZ := Lib.hid hz
  clear hn h hz
  go_enter Try.func20, Try.ntmps20
  go_wp2_with fail
  refine CD.out.mono ?_
  rintro e w1 ⟨m, k, A, c, U, V, X, rfl, hm, hk, hG, hE, hO⟩
  have CP := Lib.hid (picked_any k hk P pl pc z w1 (HZ.out.only hO))
  have HG := Lib.hid hG
  have HE := Lib.hid hE
  have HO := Lib.hid hO
  clear hG hE hO CD
  go_wp2_with fail
  refine CP.out.mono ?_
  rintro e w2 ⟨r, O, co, fo, rfl, hI, ho, hO2⟩
  have hr := ho.short
  have CR := Lib.hid (drows_any m k r A O c co U V X fo w2 hm hk HG.out (HE.out.only hO2) hI ho hr)
  have HO2 := Lib.hid (HO.out.trans hO2)
  have HL := Lib.hid (drawn_ends HG.out ho)
  clear hI ho hO2 CP HO HE
  go_wp2_with fail
  refine CR.out.mono ?_
  rintro e w3 ⟨A', c', rfl, hR, hO3⟩
  have HO3 := Lib.hid (HO2.out.trans hO3)
  obtain ⟨f, hf⟩ : ∃ f, rA m (nat U) (nat V) (nat fo) one = f := ⟨_, rfl⟩
  have hmono : ∀ i j, i ≤ j → j ≤ r → f i ≤ f j := fun i j h1 h2 => hf ▸ rA_mono one HL.out h1 h2
  have hrange : ∀ j, 0 ≤ f j ∧ f j ≤ 60 := fun j => by have := rA_range (p := nat U) (q := nat V) (o := nat fo) (n := m) (k := j); rw [hf] at this; omega
  rw [hf] at hR
  obtain ⟨b, off, rfl, hbl, c0, _, _⟩ := hR.cell (j := r) (by omega)
  have hget : ∀ j, j < r + 1 → w3.cell? ⟨b, off + j * 3, none⟩ = some (.int .i64 (f j)) := fun j hj => by
    obtain ⟨b', off', e, _, c, _⟩ := hR.cell hj
    cases e
    exact c
  obtain ⟨q, hq⟩ : ∃ q, (r + 1) / 2 = q := ⟨_, rfl⟩
  have hq1 : q < r + 1 := by omega
  have c1 := hget q hq1
  have HR := Lib.hid hR
  have HM := Lib.hid hmono
  have HF := Lib.hid hrange
  clear hR hO3 CR HO2 hmono hrange hf hget
  have d1 : (r : Int) + 1 - 1 = (r : Int) := by omega
  have d2 : ((r : Int) + 1) / 2 = (q : Int) := by omega
  have d3 : ((r : Int) + 1).tdiv 2 = (q : Int) := by rw [Int.tdiv_eq_ediv_of_nonneg (by omega)]; omega
  clear hq
  have l2 : r < r + 1 := by omega
  have hr2 : r ≤ 200 := by omega
  have wk0 : IntKind.i64.wrap (r : Int) = (r : Int) := IntWalk.i64_in _ (by omega)
  have wk1 : IntKind.i64.wrap ((r : Int) + 1 - 1) = (r : Int) := by rw [d1]; exact wk0
  have wk2 : IntKind.i64.wrap (q : Int) = (q : Int) := IntWalk.i64_in _ (by omega)
  have i0 : (0 : Int) ≤ (r : Int) := by omega
  have i1 : (r : Int) < (r : Int) + 1 := by omega
  have i2 : (0 : Int) ≤ (q : Int) := by omega
  have i3 : (q : Int) < (r : Int) + 1 := by omega
  go_wp2_with fail
  go_region_held3 (fun w' => w'.cell? ⟨b, off + r * 3, none⟩ = some (.int .i64 (f r)) ∧ w'.cell? ⟨b, off + q * 3, none⟩ = some (.int .i64 (f q))) (go_keep) (fail)
  obtain ⟨W5, hW5⟩ : ∃ W5, (w3.alloc (.cells #[.int .i64 size, .int .i64 (f r), .int .i64 (f q)] 3)).drew = W5 := ⟨_, rfl⟩
  have hE5 : W5.heap[w3.heap.size]? = some (.cells #[.int .i64 size, .int .i64 (f r), .int .i64 (f q)] 3 (0, 0)) := by rw [← hW5]; exact heap_alloc_new w3 _
  have hO5 : Only [] w3 W5 := hW5 ▸ ((Only.refl [] w3).alloc _).drewN 1
  rw [hW5]
  obtain ⟨B5, hB5⟩ : ∃ B5, w3.heap.size = B5 := ⟨_, rfl⟩
  rw [hB5] at hE5 ⊢
  have HL5 := Lib.hid (show ∀ t, t < 3 → ∃ y, W5.cell? ⟨B5, t, none⟩ = some (.int .i64 y) from fun t ht => by
    rcases (show t = 0 ∨ t = 1 ∨ t = 2 by omega) with rfl | rfl | rfl
    · exact ⟨_, cell_of_heap hE5 rfl⟩
    · exact ⟨_, cell_of_heap hE5 rfl⟩
    · exact ⟨_, cell_of_heap hE5 rfl⟩)
  have HB5 := Lib.hid (heap_lt hE5)
  have HO5 := Lib.hid (HO3.out.trans hO5)
  have HR5 := Lib.hid (HR.out.only hO5)
  clear hE5 hO5 hW5 hB5 c0 c1 d1 d2 d3 HR wk0 wk1 wk2 i0 i1 i2 i3 hbl hq1
  go_wp2_with fail
  go_loopw [63] (fun i wr => ∃ t : Nat, t ≤ 3 ∧ i = .int .i64 t ∧ Hid (Only [] W5 wr)) (fun i _ => 3 - (intOf i).toNat)
  case atStart => exact ⟨0, Nat.zero_le _, rfl, Lib.hid (Only.refl _ _)⟩
  case round =>
    obtain ⟨t, ht, rfl, HOr⟩ := hrel
    by_cases hlt : t < 3
    ·
      obtain ⟨y, hy⟩ := HL5.out t hlt
      have cy := (World.cell?_of_block (w := W5) (w' := wr) (a := ⟨B5, t, none⟩) (HOr.out.block B5 HB5.out (by simp))).trans hy
      have CG := Lib.hid (SGiant_any (some ⟨b, off, none⟩) (r + 1) c' f _ _ y wr (HR5.out.only HOr.out) (by omega))
      clear hy
      go_wp2_with fail
      refine CG.out.mono ?_
      rintro e w6 ⟨i, ok, rfl, hg, hO6⟩
      obtain ⟨g1, g2, g3⟩ := giant_ok hg HM.out
      have HO6 := Lib.hid (HOr.out.trans hO6)
      have HCc := Lib.hid (show ∀ j, j < r + 1 → w6.cell? ⟨b, off + j * 3, none⟩ = some (.int .i64 (f j)) from fun j hj => by
        obtain ⟨b', off', e, _, c, _⟩ := (HR5.out.only HO6.out).cell hj
        cases e
        exact c)
      clear hg hO6 CG cy
      have cr := HCc.out r (by omega)
      cases ok with
      | false =>
        obtain rfl := g2 rfl
        have hge : ¬ y ≤ f r := by simpa using g1.symm
        clear g1 g2 g3 HCc
        go_wp2_with fail
        go_roundw
        case rel => exact ⟨t + 1, by omega, by go_num, HO6⟩
        case measure => simp [intOf]; omega
      | true =>
        obtain ⟨j, rfl, j1, j2, j3⟩ := g3 rfl
        have hge : y ≤ f r := by simpa using g1.symm
        have cj := HCc.out j j1
        have hn : ¬ f j < y := by omega
        rcases Nat.eq_zero_or_pos j with rfl | hp
        · rw [Nat.zero_mul, Nat.add_zero] at cj
          clear g1 g2 g3 HCc
          go_wp2_with fail
          go_roundw
          case rel => exact ⟨t + 1, by omega, by go_num, HO6⟩
          case measure => simp [intOf]; omega
        · obtain ⟨j, rfl⟩ : ∃ j', j = j' + 1 := ⟨j - 1, by omega⟩
          have cj2 := HCc.out j (by omega)
          have hn2 : ¬ y ≤ f j := by have := j3 (by omega); rw [Nat.add_sub_cancel] at this; omega
          clear g1 g2 g3 HCc j3
          go_wp2_with fail
          go_roundw
          case rel => exact ⟨t + 1, by omega, by go_num, HO6⟩
          case measure => simp [intOf]; omega
    · obtain rfl : t = 3 := by omega
      have CJ := Lib.hid (SJump_any (some ⟨b, off, none⟩) (r + 1) c' f _ _ wr (HR5.out.only HOr.out) (by omega))
      go_wp2_with fail
      refine CJ.out.mono ?_
      rintro e w6 ⟨at', by', rfl, hj, hO6⟩
      obtain ⟨a, rfl, ha, hb0, hab, hstep, hmax⟩ := jump_ok hj fun j _ => ⟨(HF.out j).1, by have := (HF.out j).2; omega⟩
      have HO6 := Lib.hid (HOr.out.trans hO6)
      have HCc := Lib.hid (show ∀ W, Only [] w6 W → ∀ j, j < r + 1 → W.cell? ⟨b, off + j * 3, none⟩ = some (.int .i64 (f j)) from fun W hW j hj => by
        obtain ⟨b', off', e, _, c, _⟩ := (HR5.out.only (HO6.out.trans hW)).cell hj
        cases e
        exact c)
      have HMx := Lib.hid hmax
      have hb60 : by' ≤ 60 := by
        rcases Nat.eq_zero_or_pos a with h0 | h0
        · have := hab.1 h0; omega
        · have := hstep h0
          have := (HF.out a).2
          have := (HF.out (a - 1)).1
          omega
      have hbn : ¬ by' < 0 := by omega
      clear hj hO6 CJ hmax
      go_wp2_with fail
      obtain ⟨p, hp⟩ : ∃ p, a - 1 = p := ⟨_, rfl⟩
      have q0 : decide ((a : Int) < 0) = false := decide_eq_false (by omega)
      have q1 : decide ((a : Int) ≥ (r : Int) + 1) = false := decide_eq_false (by omega)
      have q2 : decide (by' < 0) = false := decide_eq_false (by omega)
      have HAB := Lib.hid hab
      have HST := Lib.hid hstep
      clear hab hstep
      rcases Nat.eq_zero_or_pos a with h0 | h0
      have hz := HAB.out.1 h0
      have q3 : ((a : Int) == 0) = true := by simp [h0]
      have q4 : (by' == 0) = true := by simp [hz]
      have q5 : decide (0 < a) = false := decide_eq_false (by omega)
      clear h0 hz hp
      go_big_quiet (fail)
      clear q0 q1 q2 q3 q4 q5
      rotate_left
      have hs := HST.out h0
      rw [hp] at hs
      have hz : by' ≠ 0 := fun e => by have := HAB.out.2 e; omega
      have q3 : ((a : Int) == 0) = false := by simp; omega
      have q4 : (by' == 0) = false := by simp [hz]
      have q5 : decide (0 < a) = true := decide_eq_true (by omega)
      have q6 : (a : Int) - 1 = (p : Int) := by omega
      have c1 := HCc.out w6 (Only.refl _ _) a ha
      have c2 := HCc.out w6 (Only.refl _ _) p (by omega)
      have f1 := HF.out a
      have f2 := HF.out p
      have hpl : p < r + 1 := by omega
      obtain ⟨x1, hx1⟩ : ∃ x1, f a = x1 := ⟨_, rfl⟩
      obtain ⟨x2, hx2⟩ : ∃ x2, f p = x2 := ⟨_, rfl⟩
      rw [hx1] at c1 hs f1
      rw [hx2] at c2 hs f2
      have q7 : IntKind.i64.wrap (x1 - x2) = by' := by rw [IntWalk.i64_in _ (by omega)]; exact hs
      have q8 : (by' != by') = false := by simp
      clear h0 hz hp hx1 hx2 hs
      go_big_quiet (fail)
      clear q0 q1 q2 q3 q4 q5 q6 q7 q8 c1 c2 f1 f2 hpl
      all_goals
        go_wp2_with fail
        go_loopw [19] (fun i wj => ∃ j nn : Nat, 1 ≤ j ∧ j ≤ r + 1 ∧ i = .int .i64 j ∧ wj = w6.drewN nn) (fun i _ => r + 1 - (intOf i).toNat)
        case atStart => exact ⟨1, nq, by omega, by omega, rfl, rfl⟩
        case round =>
          obtain ⟨j, nn, hj1, hj2, rfl, rfl⟩ := hrel
          by_cases hlt : j < r + 1
          · obtain ⟨j', hj'⟩ : ∃ j', j - 1 = j' := ⟨_, rfl⟩
            have q6 : (j : Int) - 1 = (j' : Int) := by omega
            obtain ⟨m1, m2⟩ := HMx.out j hj1 hlt
            rw [hj'] at m1 m2
            have c1 := HCc.out w6 (Only.refl _ _) j hlt
            have c2 := HCc.out w6 (Only.refl _ _) j' (by omega)
            have f1 := HF.out j
            have f2 := HF.out j'
            have hpl : j' < r + 1 := by omega
            obtain ⟨x1, hx1⟩ : ∃ x1, f j = x1 := ⟨_, rfl⟩
            obtain ⟨x2, hx2⟩ : ∃ x2, f j' = x2 := ⟨_, rfl⟩
            rw [hx1] at c1 m1 m2 f1
            rw [hx2] at c2 m1 m2 f2
            obtain ⟨d, hd⟩ : ∃ d, x1 - x2 = d := ⟨_, rfl⟩
            rw [hd] at m1 m2
            have q7 : IntKind.i64.wrap (x1 - x2) = d := by rw [IntWalk.i64_in _ (by omega)]; exact hd
            clear hx1 hx2 hd hj'
            go_wp2_with fail
            go_quiet (fail)
            clear q6 q7 c1 c2
            by_cases he : d = by'
            · subst he
              have m3 : decide (j < a) = false := decide_eq_false (by have := m2 rfl; omega)
              have q8 : (d == d) = true := by simp
              clear m1 m2
              go_wp2_with fail
              go_roundw
              case rel => exact ⟨j + 1, nn + nq, by omega, by omega, by go_num, rfl⟩
              case measure => simp [intOf]; omega
            · have m3 : ¬ d > by' := by omega
              have q8 : (d == by') = false := by simp [he]
              clear m1 m2
              go_wp2_with fail
              go_roundw
              case rel => exact ⟨j + 1, nn + nq, by omega, by omega, by go_num, rfl⟩
              case measure => simp [intOf]; omega
          · obtain rfl : j = r + 1 := by omega
            have CN := Lib.hid (SGiant_any none 0 0 f f f size (w6.drewN nn) EdgesIn.nil (by omega))
            go_wp2_with fail
            refine CN.out.mono ?_
            rintro e w7 ⟨i, ok, rfl, hg, hO7⟩
            obtain rfl : ok = false := by
              rcases hg with ⟨_, k, _, h1, _⟩ | ⟨h1, _⟩
              · omega
              · exact h1
            have HO7 := Lib.hid ((HO5.out.trans (HO6.out.drewN nn)).trans hO7)
            clear hg hO7 CN
            go_wp2_with fail
            refine (sworks_any _).mono ?_
            rintro e w8 ⟨rfl, hO8⟩
            have HO8 := Lib.hid (HO7.out.trans hO8)
            clear hO8
            go_wp2_with fail
            go_ret
            exact ⟨rfl, HO8.out⟩

end Go.Proofs.Ytbafacdknaopjaa
