import Derived.Test.YtbafacdknaopjaaYE4
import Derived.Test.YtbafacdknaopjaaYQ
/-
  SweepGrows: the walk.
-/
namespace Go.Proofs.Ytbafacdknaopjaa
open Go.RowKit
attribute [local go_sem] Oper.semAt_some
set_option linter.unusedSimpArgs false
set_option linter.unusedSectionVars false

theorem row_eql (x1 y1 z1 x2 y2 z2 : Int) (w : World) : (binOp .eql 91 (.agg #[.int .i64 x1, .int .i64 y1, .int .i64 z1]) (.agg #[.int .i64 x2, .int .i64 y2, .int .i64 z2])).run Try.prog w = .ok (.bool (decide (x1 = x2 ∧ y1 = y2 ∧ z1 = z2))) w := by
  have yi3 := Try.underlying3
  have yi2 := Try.underlying2
  have hS : Try.prog.underlying 91 = some (.struct (Try.prog.fieldsOf 91)) := by kernel_rfl
  have hp : Try.prog.stoodInHeld 91 = false := by kernel_rfl
  rw [run_eql_struct, show (10000 : Nat) = 9999 + 1 from rfl, run_equalIn_agg w 9999 91 _ _ hS hp]
  simp only [Program.fieldsOf, Try.underlying91]
  go_simp
  by_cases h1 : x1 = x2 <;> by_cases h2 : y1 = y2 <;> by_cases h3 : z1 = z2 <;> simp [h1, h2, h3]
theorem Ordered.short {m r : Nat} {f : Nat → Int} (h : Ordered m r f) : r ≤ m :=
  pigeon m r (fun j => (f j).toNat) (fun i hi => by have := h.1 i hi; omega) (fun i hi k hk e => h.2 i hi k hk (by have := h.1 i hi; have := h.1 k (by omega); omega))
set_option maxRecDepth 100000 in
set_option maxHeartbeats 4000000 in
theorem sweepGrows_walk (n : Int) (E : Option Addr) (len cap : Nat) (u v x : Nat → Int) (P : Option Addr) (pl pc : Nat) (z : Nat → Int) (w : World) (hn : (Lit.int .u8 n).wf = true) (h : TripsIn w .u8 E len u v x) (hz : IntsIn w .u16 P pl z) :
    Calls Try.prog 17 #[.int .u8 n, .slice E len cap, .slice P pl pc] w fun e w' => e = .returned (.bool true) ∧ Below w.heap.size w w' := by
  refine Calls.mono (R := fun e w' => e = .returned (.bool true) ∧ Only [] w w') ?_ fun e w' h => ⟨h.1, h.2.toBelow⟩
  have CD := Lib.hid (drawn_any n hn E len cap u v x w h)
  have HZ := Lib.hid hz
  clear hn h hz
  go_enter Try.func17, Try.ntmps17
  go_wp2_with fail
  refine CD.out.mono ?_
  rintro e w1 ⟨m, k, A, c, U, V, X, rfl, hm, hk, hG, hE, hO⟩
  have CP := Lib.hid (picked_any k hk P pl pc z w1 (HZ.out.only hO))
  have HG := Lib.hid hG
  have HE := Lib.hid hE
  have HO := Lib.hid hO
  clear hG hE hO CD
  go_wp2_with fail
  refine CP.out.mono ?_
  rintro e w2 ⟨r, O, co, fo, rfl, hI, ho, hO2⟩
  have hr := ho.short
  have CR := Lib.hid (drows_any m k r A O c co U V X fo w2 hm hk HG.out (HE.out.only hO2) hI ho hr)
  have HO2 := Lib.hid (HO.out.trans hO2)
  have HGr := Lib.hid (grow_of (drawn_ends HG.out ho))
  clear hI ho hO2 CP HO HE
  go_wp2_with fail
  refine CR.out.mono ?_
  rintro e w3 ⟨A', c', rfl, hR, hO3⟩
  have HO3 := Lib.hid (HO2.out.trans hO3)
  obtain ⟨f, hf⟩ : ∃ f, rA m (nat U) (nat V) (nat fo) one = f := ⟨_, rfl⟩
  obtain ⟨g, hg⟩ : ∃ g, rB m (nat U) (nat V) (nat fo) = g := ⟨_, rfl⟩
  obtain ⟨s, hs⟩ : ∃ s, rC m (nat U) (nat V) (nat fo) one = s := ⟨_, rfl⟩
  rw [hf, hg, hs] at HGr hR
  obtain ⟨b, off, rfl, hbl, a0, a1, a2⟩ := hR.cell (j := 0) (by omega)
  have HC := Lib.hid (show ∀ W, Only [] w3 W → ∀ j, j < r + 1 → W.cell? ⟨b, off + j * 3, none⟩ = some (.int .i64 (f j)) ∧ W.cell? ⟨b, off + j * 3 + 1, none⟩ = some (.int .i64 (g j)) ∧ W.cell? ⟨b, off + j * 3 + 2, none⟩ = some (.int .i64 (s j)) from fun W hW j hj => by
    obtain ⟨b', off', e, _, c0, c1, c2⟩ := (hR.only hW).cell hj
    cases e
    exact ⟨c0, c1, c2⟩)
  rw [HGr.out.a0] at a0
  rw [HGr.out.b0] at a1
  rw [HGr.out.c0] at a2
  have hr2 : r ≤ 200 := by omega
  clear hf hg hs hR hO3 CR HO2
  obtain ⟨y, hy⟩ : ∃ y, min (m : Int) 1 = y := ⟨_, rfl⟩
  have qn := fun W => row_neq y m m y m m W
  rw [decide_eq_true ⟨rfl, rfl, rfl⟩] at qn
  rw [hy] at a0
  go_wp2_with fail
  obtain ⟨W1, hW1⟩ : ∃ W1, w3.alloc (.cells #[.int .i64 y, .int .i64 m, .int .i64 m] 91) = W1 := ⟨_, rfl⟩
  have hE1 : W1.heap[w3.heap.size]? = some (.cells #[.int .i64 y, .int .i64 m, .int .i64 m] 91 (0, 0)) := by rw [← hW1]; exact heap_alloc_new _ _
  have hO1 : Only [] w3 W1 := hW1 ▸ (Only.refl [] w3).alloc _
  obtain ⟨c0, c1, c2⟩ := HC.out W1 hO1 0 (by omega)
  rw [hW1]
  obtain ⟨B1, hB1⟩ : ∃ B1, w3.heap.size = B1 := ⟨_, rfl⟩
  rw [hB1] at hE1 ⊢
  have d0 := cell_of_heap (i := 0) hE1 rfl
  have d1 := cell_of_heap (i := 1) hE1 rfl
  have d2 := cell_of_heap (i := 2) hE1 rfl
  replace d0 : W1.cell? ⟨B1, 0, none⟩ = some (.int .i64 y) := d0
  replace d1 : W1.cell? ⟨B1, 1, none⟩ = some (.int .i64 m) := d1
  replace d2 : W1.cell? ⟨B1, 2, none⟩ = some (.int .i64 m) := d2
  have HO1 := Lib.hid (HO3.out.trans hO1)
  have HO13 := Lib.hid hO1
  rw [HGr.out.a0, hy] at c0
  rw [HGr.out.b0] at c1
  rw [HGr.out.c0] at c2
  rw [Nat.zero_mul, Nat.add_zero] at c0 c1 c2
  have HY := Lib.hid hy
  clear hE1 hO1 hW1 hB1 a0 a1 a2 hy
  go_quiet (fail)
  clear d0 d1 d2 c0 c1 c2 qn
  go_wp2_with fail
  have HM0 := Lib.hid (show ((0 : Nat) : Int) = m - g (1 - 1) by rw [show 1 - 1 = 0 from rfl, HGr.out.b0]; omega)
  have HOq := Lib.hid (show Only [] w3 (W1.drewN nq) from HO13.out.drewN nq)
  go_loopw [13, 14] (fun un i wr => ∃ k cnt : Nat, 1 ≤ k ∧ k ≤ r + 1 ∧ i = .int .i64 k ∧ un = .int .i64 cnt ∧ cnt ≤ 60 ∧ Hid ((cnt : Int) = m - g (k - 1)) ∧ Hid (Only [] w3 wr)) (fun _ i _ => r + 1 - (intOf i).toNat)
  case atStart => exact ⟨1, 0, by omega, by omega, rfl, rfl, by omega, HM0, HOq⟩
  case round =>
    clear HM0 HOq
    obtain ⟨k', cnt, hk1, hk2, rfl, rfl, hcnt, HM, HOr⟩ := hrel
    by_cases hlt : k' < r + 1
    · obtain ⟨p, hp⟩ : ∃ p, k' - 1 = p := ⟨_, rfl⟩
      have q6 : (k' : Int) - 1 = (p : Int) := by omega
      have hpl : p < r + 1 := by omega
      have hkp : k' = p + 1 := by omega
      obtain ⟨c0, c1, c2⟩ := HC.out wr HOr.out k' hlt
      obtain ⟨e0, e1, e2⟩ := HC.out wr HOr.out p hpl
      have HS := Lib.hid (HGr.out.step p (by omega))
      have t1 := HGr.out.top p (by omega)
      have t2 := HGr.out.cnt p (by omega)
      have t3 := HGr.out.sq p (by omega)
      have u1 := HGr.out.top k' (by omega)
      have u2 := HGr.out.cnt k' (by omega)
      have u3 := HGr.out.sq k' (by omega)
      rw [← hkp] at HS
      rw [hp] at HM
      have HKG := Lib.hid (show ∀ x : Int, x = m - g k' → x = m - g (k' + 1 - 1) from fun x hx => by rw [Nat.add_sub_cancel]; exact hx)
      have b3 : (m : Int) * f p ≤ 60 * 60 := Int.le_trans (Int.mul_le_mul_of_nonneg_right (show (m : Int) ≤ 60 by omega) t1.1) (Int.mul_le_mul_of_nonneg_left (by omega) (by omega))
      have b4 : (m : Int) * f k' ≤ 60 * 60 := Int.le_trans (Int.mul_le_mul_of_nonneg_right (show (m : Int) ≤ 60 by omega) u1.1) (Int.mul_le_mul_of_nonneg_left (by omega) (by omega))
      obtain ⟨fa, hfa⟩ : ∃ fa, f p = fa := ⟨_, rfl⟩
      obtain ⟨ga, hga⟩ : ∃ ga, g p = ga := ⟨_, rfl⟩
      obtain ⟨sa, hsa⟩ : ∃ sa, s p = sa := ⟨_, rfl⟩
      obtain ⟨fb, hfb⟩ : ∃ fb, f k' = fb := ⟨_, rfl⟩
      obtain ⟨gb, hgb⟩ : ∃ gb, g k' = gb := ⟨_, rfl⟩
      obtain ⟨sb, hsb⟩ : ∃ sb, s k' = sb := ⟨_, rfl⟩
      rw [hfa] at e0 HS t1 t3 b3
      rw [hga] at e1 HS t2 HM
      rw [hsa] at e2 HS t3
      rw [hfb] at c0 HS u1 u3 b4
      rw [hgb] at c1 HS u2 HKG
      rw [hsb] at c2 HS u3
      have s1 : 0 ≤ sa ∧ sa ≤ 3600 := by omega
      have s2 : 0 ≤ sb ∧ sb ≤ 3600 := by omega
      clear hfa hga hsa hfb hgb hsb hp t3 u3 b3 b4 hkp
      have hbr : b < wr.heap.size := Nat.lt_of_lt_of_le hbl HOr.out.size
      have hp2 : p ≤ 200 := by omega
      go_upto_region 13 with (fail)
      go_cut [15, 16] from 56 to 120 (fun a b wc => ∃ A B : Nat, a = .pointer (some ⟨A, 0, none⟩) ∧ b = .pointer (some ⟨B, 0, none⟩) ∧ Hid (wc.heap[A]? = some (.cells #[.int .i64 fa, .int .i64 ga, .int .i64 sa] 91 (0, 0))) ∧ Hid (wc.heap[B]? = some (.cells #[.int .i64 fb, .int .i64 gb, .int .i64 sb] 91 (0, 0))) ∧ Hid (Only [] w3 wc))
      case first =>
        go_region
        all_goals
          go_wp2
          go_meet
        · refine ⟨wr.heap.size, wr.heap.size + 1, ?_, ?_, Lib.hid ?_, Lib.hid ?_, Lib.hid ?_⟩
          · simp
          · simp
          · exact (two_rows wr _ _ _).1
          · exact (two_rows wr _ _ _).2
          · exact HOr.out.trans ((two_made wr _ _).2.drewN 1)
        · refine ⟨wr.heap.size + 1, wr.heap.size, ?_, ?_, Lib.hid ?_, Lib.hid ?_, Lib.hid ?_⟩
          · simp
          · simp
          · exact (two_rows wr _ _ _).2
          · exact (two_rows wr _ _ _).1
          · exact HOr.out.trans ((two_made wr _ _).2.drewN 1)
      case rest =>
        obtain ⟨A1, B2, rfl, rfl, HA1, HB2, HOc⟩ := hcut
        have a0 := cell_of_heap (i := 0) HA1.out rfl
        have a1 := cell_of_heap (i := 1) HA1.out rfl
        have a2 := cell_of_heap (i := 2) HA1.out rfl
        have b0 := cell_of_heap (i := 0) HB2.out rfl
        have b1 := cell_of_heap (i := 1) HB2.out rfl
        have b2 := cell_of_heap (i := 2) HB2.out rfl
        replace a0 : wc.cell? ⟨A1, 0, none⟩ = some (.int .i64 fa) := a0
        replace a1 : wc.cell? ⟨A1, 1, none⟩ = some (.int .i64 ga) := a1
        replace a2 : wc.cell? ⟨A1, 2, none⟩ = some (.int .i64 sa) := a2
        replace b0 : wc.cell? ⟨B2, 0, none⟩ = some (.int .i64 fb) := b0
        replace b1 : wc.cell? ⟨B2, 1, none⟩ = some (.int .i64 gb) := b1
        replace b2 : wc.cell? ⟨B2, 2, none⟩ = some (.int .i64 sb) := b2
        clear c0 c1 c2 e0 e1 e2 hbr
        rcases HS.out with ⟨rfl, rfl, rfl⟩ | ⟨cc, h1, h2, h3, h4, h5, h6⟩
        · have qe := fun W => row_eql fb gb sb fb gb sb W
          rw [decide_eq_true ⟨rfl, rfl, rfl⟩] at qe
          go_wp2_with fail
          exact ⟨⟨k' + 1, cnt, by omega, by omega, by go_num, rfl, hcnt, Lib.hid (HKG.out _ HM.out), HOc⟩, by simp [intOf]; omega⟩
        · have qe := fun W => row_eql fa ga sa fb gb sb W
          rw [decide_eq_false (show ¬ (fa = fb ∧ ga = gb ∧ sa = sb) by omega)] at qe
          have HK2 := Lib.hid (show ((cnt + 1 : Nat) : Int) = m - g (k' + 1 - 1) from HKG.out _ (by have := HM.out; omega))
          have hc60 : cnt + 1 ≤ 60 := by have := HM.out; omega
          obtain ⟨d, hd⟩ : ∃ d, sb - sa = d := ⟨_, rfl⟩
          have d0 : IntKind.i64.wrap (sb - sa) = d := by rw [IntWalk.i64_in _ (by omega)]; exact hd
          have d1 : ¬ d < 2 := by omega
          have d2 : d % 2 = 0 := by omega
          have d2' : d.tmod 2 = 0 := by rw [Int.tmod_eq_emod_of_nonneg (by omega)]; omega
          have d3 : d / 2 = (cc : Int) := by omega
          have d3' : d.tdiv 2 = (cc : Int) := by rw [Int.tdiv_eq_ediv_of_nonneg (by omega)]; omega
          obtain ⟨ff, hff⟩ : ∃ ff, fa * fa = ff := ⟨_, rfl⟩
          have hfr : ff ≤ 60 * 60 := hff ▸ Int.le_trans (Int.mul_le_mul_of_nonneg_right (show fa ≤ 60 by omega) t1.1) (Int.mul_le_mul_of_nonneg_left (show fa ≤ 60 by omega) (by omega))
          rw [hff] at h2
          have d4 : IntKind.i64.wrap (fa * fa) = ff := by rw [IntWalk.i64_in _ (by omega)]; exact hff
          have d5 : ¬ ff < (cc : Int) := by omega
          have q1 : (gb != ga - 1) = false := by simp [h5]
          have h3' : ¬ fb < fa := by omega
          have h4' : ¬ 2 * fa < fb := by omega
          clear h1 h2 h3 h4 h5 h6 hd hff HS HM
          go_wp2_with fail
          exact ⟨⟨k' + 1, cnt + 1, by omega, by omega, by go_num, by go_num, hc60, HK2, HOc⟩, by simp [intOf]; omega⟩
    · obtain rfl : k' = r + 1 := by omega
      rw [Nat.add_sub_cancel] at HM
      obtain ⟨c0, c1, c2⟩ := HC.out wr HOr.out r (by omega)
      have t1 := HGr.out.top r (by omega)
      have t2 := HGr.out.cnt r (by omega)
      have t3 := HGr.out.sq r (by omega)
      obtain ⟨fa, hfa⟩ : ∃ fa, f r = fa := ⟨_, rfl⟩
      obtain ⟨ga, hga⟩ : ∃ ga, g r = ga := ⟨_, rfl⟩
      obtain ⟨sa, hsa⟩ : ∃ sa, s r = sa := ⟨_, rfl⟩
      rw [hfa] at c0 t1 t3
      rw [hga] at c1 t2 HM
      rw [hsa] at c2 t3
      have b3 : (m : Int) * fa ≤ 60 * 60 := Int.le_trans (Int.mul_le_mul_of_nonneg_right (show (m : Int) ≤ 60 by omega) t1.1) (Int.mul_le_mul_of_nonneg_left (by omega) (by omega))
      have b4 : 0 ≤ (m : Int) * fa := Int.mul_nonneg (by omega) t1.1
      obtain ⟨ff, hff⟩ : ∃ ff, (m : Int) * fa = ff := ⟨_, rfl⟩
      rw [hff] at b3 b4 t3
      have d4 : IntKind.i64.wrap ((m : Int) * fa) = ff := by rw [IntWalk.i64_in _ (by omega)]; exact hff
      have d5 : sa ≤ ff := t3.2
      have d6 : IntKind.i64.wrap ((m : Int) - ga) = (cnt : Int) := by rw [IntWalk.i64_in _ (by omega)]; exact HM.out.symm
      have q1 : ((cnt : Int) == (m : Int) - ga) = true := by simp [HM.out]
      have q2 : ((cnt : Int) == (cnt : Int)) = true := by simp
      have d7 : fa ≤ (m : Int) := t1.2
      have wk0 : IntKind.i64.wrap (r : Int) = (r : Int) := IntWalk.i64_in _ (by omega)
      have wk2 : (r : Int) + 1 - 1 = (r : Int) := by omega
      have l2 : r < r + 1 := by omega
      have HOw := Lib.hid (HO3.out.trans HOr.out)
      have hbr : b < wr.heap.size := Nat.lt_of_lt_of_le hbl HOr.out.size
      clear hfa hga hsa hff HM t1 t2 t3 b3 b4
      go_wp2_with fail
      refine (sworks_any _).mono ?_
      rintro e w8 ⟨rfl, hO8⟩
      have HO8 := Lib.hid ((HOw.out.alloc _).trans hO8)
      clear hO8
      go_wp2_with fail
      go_ret
      exact ⟨rfl, HO8.out⟩

end Go.Proofs.Ytbafacdknaopjaa
