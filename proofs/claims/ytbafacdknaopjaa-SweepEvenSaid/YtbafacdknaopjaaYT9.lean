import Derived.Test.YtbafacdknaopjaaYE7
import Derived.Test.YtbafacdknaopjaaYQ
/-
  SweepEven: the walk.
-/
namespace Go.Proofs.Ytbafacdknaopjaa
open Go.RowKit
attribute [local go_sem] Oper.semAt_some
set_option linter.unusedSimpArgs false
set_option linter.unusedSectionVars false

theorem row64_put2 {w : World} {G H n N : Nat} {f g : Nat → Nat} (hf : Row64 w G n f) (hg : Row64 w H N g) (hne : G ≠ H) (i j x y : Nat) : Row64 ((w.setCell ⟨G, i, none⟩ (.int .i64 x)).setCell ⟨H, j, none⟩ (.int .i64 y)) G n (put f i x) ∧ Row64 ((w.setCell ⟨G, i, none⟩ (.int .i64 x)).setCell ⟨H, j, none⟩ (.int .i64 y)) H N (put g j y) :=
  ⟨(hf.put i x).same (heap_setCell_other _ ⟨H, j, none⟩ G _ hne), (hg.same (heap_setCell_other w ⟨G, i, none⟩ H _ hne.symm)).put j y⟩
set_option maxRecDepth 100000 in
set_option maxHeartbeats 8000000 in
theorem sweepEven_walk (n : Int) (E : Option Addr) (len cap : Nat) (u v x : Nat → Int) (P : Option Addr) (pl pc : Nat) (z : Nat → Int) (cc zero : Int) (w : World) (hn : (Lit.int .u8 n).wf = true) (h : TripsIn w .u8 E len u v x) (hz : IntsIn w .u16 P pl z) (hcc : (Lit.int .u16 cc).wf = true) (hzero : (Lit.int .u8 zero).wf = true) :
    Calls Try.prog 22 #[.int .u8 n, .slice E len cap, .slice P pl pc, .int .u16 cc, .int .u8 zero] w fun e w' => e = .returned (.bool true) ∧ Below w.heap.size w w' := by
  refine Calls.mono (R := fun e w' => e = .returned (.bool true) ∧ Only [] w w') ?_ fun e w' h => ⟨h.1, h.2.toBelow⟩
  have CD := Lib.hid (drawn_any n hn E len cap u v x w h)
  have HZ := Lib.hid hz
  obtain ⟨cn, rfl, hcn⟩ := short_nat hcc
  obtain ⟨zn, rfl, hzn⟩ := byte_nat hzero
  obtain ⟨cy, hcy⟩ : ∃ cy, cn % 1001 = cy := ⟨_, rfl⟩
  obtain ⟨zz, hzz⟩ : ∃ zz, zn % 5 = zz := ⟨_, rfl⟩
  have qc : (cn : Int) % 1001 = (cy : Int) := by omega
  have qz : (zn : Int) % 5 = (zz : Int) := by omega
  have hcy2 : cy ≤ 1000 := by omega
  have hzz2 : zz ≤ 4 := by omega
  clear hn h hz hcc hzero hcy hzz
  go_enter Try.func22, Try.ntmps22
  go_wp2_with fail
  refine CD.out.mono ?_
  rintro e w1 ⟨m, k, A, c, U, V, X, rfl, hm, hk, hG, hE, hO⟩
  have CP := Lib.hid (picked_any k hk P pl pc z w1 (HZ.out.only hO))
  have HG := Lib.hid hG
  have HE := Lib.hid hE
  have HO := Lib.hid hO
  clear hG hE hO CD
  go_wp2_with fail
  refine CP.out.mono ?_
  rintro e w2 ⟨r, O, co, fo, rfl, hI, ho, hO2⟩
  have hr := ho.short
  have CR := Lib.hid (drows_any m k r A O c co U V X fo w2 hm hk HG.out (HE.out.only hO2) hI ho hr)
  have HO2 := Lib.hid (HO.out.trans hO2)
  have HL := Lib.hid (drawn_ends HG.out ho)
  have HI2 := Lib.hid hI
  have HE2 := Lib.hid (HE.out.only hO2)
  have Ho := Lib.hid ho
  clear hI ho hO2 CP HO HE
  go_wp2_with fail
  refine CR.out.mono ?_
  rintro e w3 ⟨A', c', rfl, hR, hO3⟩
  have HO3 := Lib.hid (HO2.out.trans hO3)
  have HR3 := Lib.hid hR
  have HI3 := Lib.hid (HI2.out.only hO3)
  have HE3 := Lib.hid (HE2.out.only hO3)
  clear hR hO3 CR HO2 HI2 HE2
  have hmk1 := fun W => mk_ints64 m (by omega) W
  have hmk2 : ∀ W, (Instr.makeSlice 25 (.int .i64 ((m : Int) + (zz : Int))) (.int .i64 ((m : Int) + (zz : Int)))).run Try.prog W = .ok (.slice (some ⟨W.heap.size, 0, none⟩) (m + zz) (m + zz)) (W.alloc (.cells (madeCells #[.int .i64 0] (m + zz)) 2)) := fun W => mk_ints64 (m + zz) (by omega) W
  have hw1 : IntKind.i64.wrap ((m : Int) + (zz : Int)) = (m : Int) + (zz : Int) := IntWalk.i64_in _ (by omega)
  go_upto_region 5 with (fail)
  go_cut [17, 18] from 50 (fun s t wc => ∃ G H : Nat, s = .slice (some ⟨G, 0, none⟩) m m ∧ t = .slice (some ⟨H, 0, none⟩) (m + zz) (m + zz) ∧ G ≠ H ∧ Hid (w3.heap.size ≤ G ∧ w3.heap.size ≤ H) ∧ Hid (Row64 wc G m fun _ => 0) ∧ Hid (Row64 wc H (m + zz) fun _ => 0) ∧ Hid (Only [] w3 wc))
  case first =>
    go_region
    all_goals
      go_wp2
      go_meet
    · refine ⟨w3.heap.size, w3.heap.size + 1, ?_, ?_, by omega, Lib.hid (by omega), Lib.hid (made_row64 (two_rows w3 _ _ _).1), Lib.hid (made_row64 (two_rows w3 _ _ _).2), Lib.hid ((two_made w3 _ _).2.drewN 1)⟩
      · simp
      · simp
    · refine ⟨w3.heap.size + 1, w3.heap.size, ?_, ?_, by omega, Lib.hid (by omega), Lib.hid (made_row64 (two_rows w3 _ _ _).2), Lib.hid (made_row64 (two_rows w3 _ _ _).1), Lib.hid ((two_made w3 _ _).2.drewN 1)⟩
      · simp
      · simp
  case rest =>
    obtain ⟨G, H, rfl, rfl, hne, HGH, H1, H2, HOc⟩ := hcut
    clear hmk1 hmk2 hw1
    go_wp2_with fail
    go_loopw [60] (fun i wr => ∃ t : Nat, t ≤ m ∧ i = .int .i64 t ∧ Hid (Row64 wr G m fun j => if j < t then 1 else 0) ∧ Hid (Row64 wr H (m + zz) fun j => if j < t then cy else 0) ∧ Hid (Only [] w3 wr)) (fun i _ => m - (intOf i).toNat)
    case atStart => exact ⟨0, Nat.zero_le _, rfl, Lib.hid (H1.out.congr fun i _ => by rw [if_neg (by omega)]), Lib.hid (H2.out.congr fun i _ => by rw [if_neg (by omega)]), HOc⟩
    case round =>
      clear H1 H2 HOc
      obtain ⟨t, ht, rfl, H1, H2, HOc⟩ := hrel
      by_cases hlt : t < m
      · have c1 := H1.out.cell hlt
        have c2 := H2.out.cell (show t < m + zz by omega)
        have z1 := H1.out.frozen t
        have z2 := H2.out.frozen t
        have hP := row64_put2 H1.out H2.out hne t t 1 cy
        have HP := Lib.hid (And.intro (hP.1.congr (f' := fun j => if j < t + 1 then 1 else 0) fun i _ => by
            unfold Go.Proofs.Ytbafacdknaopjaa.put
            by_cases e : i = t
            · rw [if_pos e, if_pos (by omega)]
            · rw [if_neg e]
              show (if i < t then 1 else 0) = _
              by_cases e2 : i < t
              · rw [if_pos e2, if_pos (by omega)]
              · rw [if_neg e2, if_neg (by omega)]) (hP.2.congr (f' := fun j => if j < t + 1 then cy else 0) fun i _ => by
            unfold Go.Proofs.Ytbafacdknaopjaa.put
            by_cases e : i = t
            · rw [if_pos e, if_pos (by omega)]
            · rw [if_neg e]
              show (if i < t then cy else 0) = _
              by_cases e2 : i < t
              · rw [if_pos e2, if_pos (by omega)]
              · rw [if_neg e2, if_neg (by omega)]))
        have HO5 := Lib.hid (HOc.out.to (((Only.refl [G, H] wr).setCell (g := G) (i := t) (by simp) (.int .i64 ((1 : Nat) : Int))).setCell (g := H) (i := t) (by simp) (.int .i64 (cy : Nat))) fun i hi hlt => by simp at hi; have := HGH.out; omega)
        have htz : t < m + zz := by omega
        clear hP
        go_wp2_with fail
        exact ⟨⟨t + 1, by omega, by go_num, Lib.hid HP.out.1, Lib.hid HP.out.2, HO5⟩, by simp [intOf]; omega⟩
      · obtain rfl : t = m := by omega
        have HW1 := Lib.hid ((H1.out.congr (f' := one) fun i hi => by rw [if_pos hi]; rfl).ints (fun _ _ => by unfold one; omega) (by unfold maxLen; omega))
        have HW2 := Lib.hid ((H2.out.congr (f' := wtC t cy) fun i hi => rfl).ints (fun j _ => by unfold wtC; split <;> omega) (by unfold maxLen; omega))
        have HOd := Lib.hid (HO3.out.trans HOc.out)
        have CW1 := Lib.hid (dweighted_any t t k r (some ⟨G, 0, none⟩) A O t c co _ U V X fo one wr (Nat.le_refl _) (by omega) hk HG.out HW1.out (fun _ _ => rfl) (fun _ _ => by unfold one; omega) (HE3.out.only HOc.out) (HI3.out.only HOc.out) Ho.out hr)
        have CW2 := Lib.hid (fun (W : World) (hW : Only [] wr W) => dweighted_any (t + zz) t k r (some ⟨H, 0, none⟩) A O (t + zz) c co _ U V X fo (wtC t cy) W (by omega) (by omega) hk HG.out (HW2.out.only hW) (fun _ _ => rfl) (fun _ _ => by unfold wtC; split <;> omega) (HE3.out.only (HOc.out.trans hW)) (HI3.out.only (HOc.out.trans hW)) Ho.out hr)
        have HRr := Lib.hid (fun j (hj : j < r + 1) => row_c (m := t) (z := zz) (c := cy) (k := j) (p := nat U) (q := nat V) (o := nat fo) fun i hi => HL.out i (by omega))
        have HGr := Lib.hid (grow_of HL.out)
        obtain ⟨f1, hf1⟩ : ∃ f1, rA t (nat U) (nat V) (nat fo) one = f1 := ⟨_, rfl⟩
        obtain ⟨g1, hg1⟩ : ∃ g1, rB t (nat U) (nat V) (nat fo) = g1 := ⟨_, rfl⟩
        obtain ⟨s1, hs1⟩ : ∃ s1, rC t (nat U) (nat V) (nat fo) one = s1 := ⟨_, rfl⟩
        obtain ⟨f2, hf2⟩ : ∃ f2, rA (t + zz) (nat U) (nat V) (nat fo) (wtC t cy) = f2 := ⟨_, rfl⟩
        obtain ⟨g2, hg2⟩ : ∃ g2, rB (t + zz) (nat U) (nat V) (nat fo) = g2 := ⟨_, rfl⟩
        obtain ⟨s2, hs2⟩ : ∃ s2, rC (t + zz) (nat U) (nat V) (nat fo) (wtC t cy) = s2 := ⟨_, rfl⟩
        rw [hf1, hg1, hs1] at CW1 HR3 HGr
        rw [hf2, hg2, hs2] at CW2
        rw [hf1, hg1, hs1, hf2, hg2, hs2] at HRr
        have HRa := Lib.hid (HR3.out.only HOc.out)
        clear hf1 hg1 hs1 hf2 hg2 hs2 H1 H2 HOc HO3 HW1 HW2 HE3 HI3 HR3 hlt ht
        go_wp2_with fail
        refine CW1.out.mono ?_
        rintro e w5 ⟨A1, c1, A2, c2, A3, c3, rfl, h1, h2, h3, hO5⟩
        have HX := Lib.hid (And.intro h1 (And.intro h2 h3))
        have CW2 := Lib.hid (CW2.out w5 hO5)
        have HRb := Lib.hid (HRa.out.only hO5)
        have HOe := Lib.hid (HOd.out.trans hO5)
        clear h1 h2 h3 hO5 CW1 HRa HOd
        go_wp2_with fail
        refine CW2.out.mono ?_
        rintro e w6 ⟨B1, d1, B2, d2, B3, d3, rfl, h4, h5, h6, hO6⟩
        have HX := Lib.hid (show ∀ W, Only [] w6 W → IntsIn W .i64 A1 (r + 1) f1 ∧ IntsIn W .i64 A2 (r + 1) g1 ∧ IntsIn W .i64 A3 (r + 1) s1 ∧ IntsIn W .i64 B1 (r + 1) f2 ∧ IntsIn W .i64 B2 (r + 1) g2 ∧ IntsIn W .i64 B3 (r + 1) s2 ∧ EdgesIn W A' (r + 1) f1 g1 s1 from fun W hW =>
          ⟨HX.out.1.only (hO6.trans hW), HX.out.2.1.only (hO6.trans hW), HX.out.2.2.only (hO6.trans hW), h4.only hW, h5.only hW, h6.only hW, HRb.out.only (hO6.trans hW)⟩)
        have HOf := Lib.hid (HOe.out.trans hO6)
        clear h4 h5 h6 hO6 CW2 HRb HOe
        go_wp2_with fail
        go_loopw [143] (fun i wr => ∃ j : Nat, j ≤ r + 1 ∧ i = .int .i64 j ∧ Hid (Only [] w6 wr)) (fun i _ => r + 1 - (intOf i).toNat)
        case atStart => exact ⟨0, Nat.zero_le _, rfl, Lib.hid (Only.refl _ _)⟩
        case round =>
          obtain ⟨j, hj, rfl, HOr⟩ := hrel
          by_cases hlt : j < r + 1
          · obtain ⟨h1, h2, h3, h4, h5, h6, h7⟩ := HX.out wr HOr.out
            obtain ⟨x1, o1, rfl, _⟩ := h1.cell hlt
            obtain ⟨x2, o2, rfl, _⟩ := h2.cell hlt
            obtain ⟨x3, o3, rfl, _⟩ := h3.cell hlt
            obtain ⟨x4, o4, rfl, _⟩ := h4.cell hlt
            obtain ⟨x5, o5, rfl, _⟩ := h5.cell hlt
            obtain ⟨x6, o6, rfl, _⟩ := h6.cell hlt
            obtain ⟨x7, o7, rfl, _, e0, e1, e2⟩ := h7.cell hlt
            obtain ⟨r1, r2, r3⟩ := HRr.out j hlt
            have t1 := HGr.out.top j (by omega)
            have t2 := HGr.out.cnt j (by omega)
            have t3 := HGr.out.sq j (by omega)
            have b3 : (t : Int) * f1 j ≤ 60 * 60 := Int.le_trans (Int.mul_le_mul_of_nonneg_right (show (t : Int) ≤ 60 by omega) t1.1) (Int.mul_le_mul_of_nonneg_left (by omega) (by omega))
            obtain ⟨B, hB⟩ : ∃ B, wr.heap.size = B := ⟨_, rfl⟩
            obtain ⟨W1, hW1⟩ : ∃ W1, wr.alloc (.cells #[.int .i64 (f1 j), .int .i64 (g1 j), .int .i64 (s1 j)] 91) = W1 := ⟨_, rfl⟩
            have hE1 : W1.heap[B]? = some (.cells #[.int .i64 (f1 j), .int .i64 (g1 j), .int .i64 (s1 j)] 91 (0, 0)) := by rw [← hW1, ← hB]; exact heap_alloc_new _ _
            have HO1 := Lib.hid (show Only [] w6 W1 from hW1 ▸ HOr.out.alloc _)
            obtain ⟨k1, k2, k3, k4, k5, k6, _⟩ := HX.out W1 HO1.out
            have cellAt : ∀ {A : Option Addr} {n : Nat} {f : Nat → Int} {b o : Nat}, IntsIn W1 .i64 (some ⟨b, o, none⟩) n f → j < n → W1.cell? ⟨b, o + j, none⟩ = some (.int .i64 (f j)) := fun h hj => by
              obtain ⟨b', o', e, c⟩ := h.cell hj
              cases e
              exact c
            have m1 := cellAt (A := none) k1 hlt
            have m2 := cellAt (A := none) k2 hlt
            have m3 := cellAt (A := none) k3 hlt
            have m4 := cellAt (A := none) k4 hlt
            have m5 := cellAt (A := none) k5 hlt
            have m6 := cellAt (A := none) k6 hlt
            have f0 := cell_of_heap (i := 0) hE1 rfl
            have f1' := cell_of_heap (i := 1) hE1 rfl
            have f2' := cell_of_heap (i := 2) hE1 rfl
            obtain ⟨fa, hfa⟩ : ∃ fa, f1 j = fa := ⟨_, rfl⟩
            obtain ⟨ga, hga⟩ : ∃ ga, g1 j = ga := ⟨_, rfl⟩
            obtain ⟨sa, hsa⟩ : ∃ sa, s1 j = sa := ⟨_, rfl⟩
            obtain ⟨fb, hfb⟩ : ∃ fb, f2 j = fb := ⟨_, rfl⟩
            obtain ⟨gb, hgb⟩ : ∃ gb, g2 j = gb := ⟨_, rfl⟩
            obtain ⟨sb, hsb⟩ : ∃ sb, s2 j = sb := ⟨_, rfl⟩
            rw [hfa] at m1 r1 t1 e0 t3 b3
            rw [hga] at m2 r2 t2 e1
            rw [hsa] at m3 r3 t3 e2
            rw [hfb] at m4 r1
            rw [hgb] at m5 r2
            rw [hsb] at m6 r3
            replace f0 : W1.cell? ⟨B, 0, none⟩ = some (.int .i64 fa) := by rw [← hfa]; exact f0
            replace f1' : W1.cell? ⟨B, 1, none⟩ = some (.int .i64 ga) := by rw [← hga]; exact f1'
            replace f2' : W1.cell? ⟨B, 2, none⟩ = some (.int .i64 sa) := by rw [← hsa]; exact f2'
            rw [hfa, hga, hsa] at hW1
            clear h1 h2 h3 h4 h5 h6 h7 k1 k2 k3 k4 k5 k6 cellAt hE1 hfa hga hsa hfb hgb hsb
            go_upto_region 18 with (fail)
            clear hW1 hB e0 e1 e2
            have q1 : (fa != fa) = false := by simp
            have q2 : (ga != ga) = false := by simp
            have q3 : (sa != sa) = false := by simp
            go_quiet (fail)
            clear q1 q2 q3 f0 f1' f2'
            have p0 : 0 ≤ (cy : Int) * fa := Int.mul_nonneg (by omega) t1.1
            have p1 : (cy : Int) * fa ≤ 1000 * 60 := Int.le_trans (Int.mul_le_mul_of_nonneg_right (show (cy : Int) ≤ 1000 by omega) t1.1) (Int.mul_le_mul_of_nonneg_left (by omega) (by omega))
            have p2 : 0 ≤ (cy : Int) * cy := Int.mul_nonneg (by omega) (by omega)
            have p3 : (cy : Int) * cy ≤ 1000 * 1000 := Int.le_trans (Int.mul_le_mul_of_nonneg_right (show (cy : Int) ≤ 1000 by omega) (by omega)) (Int.mul_le_mul_of_nonneg_left (by omega) (by omega))
            obtain ⟨c2', hc2⟩ : ∃ c2', (cy : Int) * cy = c2' := ⟨_, rfl⟩
            rw [hc2] at r3 p2 p3
            have p4 : 0 ≤ c2' * sa := Int.mul_nonneg p2 (by omega)
            have p5 : c2' * sa ≤ 1000000 * 3600 := Int.le_trans (Int.mul_le_mul_of_nonneg_right (show c2' ≤ 1000000 by omega) (by omega)) (Int.mul_le_mul_of_nonneg_left (by omega) (by omega))
            have w1' : IntKind.i64.wrap ((cy : Int) * fa) = fb := by rw [r1]; exact IntWalk.i64_in _ (by omega)
            have w2' : IntKind.i64.wrap (ga + (zz : Int)) = gb := by rw [r2]; exact IntWalk.i64_in _ (by omega)
            have w3' : IntKind.i64.wrap ((cy : Int) * cy) = c2' := by rw [hc2]; exact IntWalk.i64_in _ (by omega)
            have w4' : IntKind.i64.wrap (c2' * sa) = sb := by rw [r3]; exact IntWalk.i64_in _ (by omega)
            have q1 : (fb != fb) = false := by simp
            have q2 : (gb != gb) = false := by simp
            have q3 : (sb != sb) = false := by simp
            clear r1 r2 r3 t1 t2 t3 b3 p0 p1 p2 p3 p4 p5 hc2
            go_wp2_with fail
            go_quiet (fail)
            go_wp2_with fail
            exact ⟨⟨j + 1, by omega, by go_num, Lib.hid (HO1.out.drewN _)⟩, by simp [intOf]; omega⟩
          · obtain rfl : j = r + 1 := by omega
            go_wp2_with fail
            refine (sworks_any _).mono ?_
            rintro e w7 ⟨rfl, hO7⟩
            have HO7 := Lib.hid ((HOf.out.trans HOr.out).trans hO7)
            clear hO7
            go_wp2_with fail
            go_ret
            exact ⟨rfl, HO7.out⟩

end Go.Proofs.Ytbafacdknaopjaa
