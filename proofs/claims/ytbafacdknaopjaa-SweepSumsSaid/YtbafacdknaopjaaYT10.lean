import Derived.StillTailTactics
import Derived.Test.YtbafacdknaopjaaYE7
import Derived.Test.YtbafacdknaopjaaYE5
import Derived.Test.YtbafacdknaopjaaYQ
/-
  SweepSums: the walk.
-/
namespace Go.Proofs.Ytbafacdknaopjaa
open Go.RowKit
attribute [local go_sem] Oper.semAt_some
set_option linter.unusedSimpArgs false
set_option linter.unusedSectionVars false

theorem maxL_snoc (l : List Int) (v : Int) : maxL (l ++ [v]) = max (maxL l) (max v 0) := by
  induction l with
  | nil => simp only [List.nil_append, maxL]; omega
  | cons u l ih => simp only [List.cons_append, maxL, ih]; omega
def mx (wt : Nat → Nat) (t : Nat) : Int := maxL ((List.range t).map fun a => (wt a : Int))
theorem mx_succ (wt : Nat → Nat) (t : Nat) : mx wt (t + 1) = max (mx wt t) (wt t : Int) := by
  unfold mx
  rw [List.range_succ, List.map_append, List.map_singleton, maxL_snoc]
  omega
theorem mx_range (wt : Nat → Nat) (h : ∀ a, wt a ≤ 65535) (t : Nat) : 0 ≤ mx wt t ∧ mx wt t ≤ 65535 :=
  ⟨maxL_nonneg _, maxL_le (by omega) fun v hv => by
    obtain ⟨a, _, rfl⟩ := List.mem_map.1 hv
    have := h a
    omega⟩
def backO (k : Nat) : Nat → Nat := fun i => k - 1 - i
theorem back_ordered (k : Nat) : Ordered k k (castI (backO k)) := ⟨fun i hi => by unfold castI backO; omega, fun i hi j hj e => by
  have := Int.ofNat.inj e
  unfold backO at this
  omega⟩
set_option maxRecDepth 100000 in
set_option maxHeartbeats 8000000 in
theorem sweepSums_walk (n : Int) (E : Option Addr) (len cap : Nat) (u v x : Nat → Int) (P : Option Addr) (pl pc : Nat) (z : Nat → Int) (S : Option Addr) (sl sc : Nat) (y : Nat → Int) (w : World) (hn : (Lit.int .u8 n).wf = true) (h : TripsIn w .u8 E len u v x) (hz : IntsIn w .u16 P pl z) (hy : IntsIn w .u16 S sl y) :
    Calls Try.prog 23 #[.int .u8 n, .slice E len cap, .slice P pl pc, .slice S sl sc] w fun e w' => e = .returned (.bool true) ∧ Below w.heap.size w w' := by
  refine Calls.mono (R := fun e w' => e = .returned (.bool true) ∧ Only [] w w') ?_ fun e w' h => ⟨h.1, h.2.toBelow⟩
  obtain ⟨i1, gi, gz0, gz1, gz2⟩ := info_parts infoInt
  have CD := Lib.hid (drawn_any n hn E len cap u v x w h)
  have HZ := Lib.hid hz
  have HY := Lib.hid hy
  have hsl := hy.len
  unfold maxLen at hsl
  clear hn h hz hy
  go_enter Try.func23, Try.ntmps23
  go_wp2_with fail
  refine CD.out.mono ?_
  rintro e w1 ⟨m, k, A, c, U, V, X, rfl, hm, hk, hG, hE, hO⟩
  have HG := Lib.hid hG
  have HE := Lib.hid hE
  have HO := Lib.hid hO
  have hmk := mk_ints64 m (by omega)
  obtain ⟨wt, hwt⟩ : ∃ wt : Nat → Nat, (fun j => if 0 < sl then (y (j % sl)).toNat else 0) = wt := ⟨_, rfl⟩
  have HWT := Lib.hid hwt
  have HU := Lib.hid (show ∀ j, wt j ≤ 65535 from fun j => by
    rw [← hwt]
    show (if 0 < sl then (y (j % sl)).toNat else 0) ≤ 65535
    split
    · rename_i h0
      obtain ⟨a, ha, ha1⟩ := short_nat (HY.out.wf (j % sl) (Nat.mod_lt _ h0))
      omega
    · omega)
  clear hG hE hO CD hwt
  go_wp2_with fail
  clear hmk
  obtain ⟨G, hGs⟩ : ∃ G, w1.heap.size = G := ⟨_, rfl⟩
  have H0 := Lib.hid (made_row64 (g := G) (n := m) (w := w1.alloc (.cells (madeCells #[.int .i64 0] m) 2)) (by rw [← hGs]; exact heap_alloc_new w1 _))
  have HOa := Lib.hid ((Only.refl [] w1).alloc (.cells (madeCells #[.int .i64 0] m) 2))
  rw [hGs]
  have HGs := Lib.hid hGs
  clear hGs
  go_loopw [12, 13, 43] (fun s b i wr => ∃ (t su : Nat) (mo : Int), t ≤ m ∧ i = .int .i64 t ∧ s = .int .i64 su ∧ b = .int .i64 mo ∧ su ≤ t * 65535 ∧ 0 ≤ mo ∧ mo ≤ 65535 ∧ Hid (su = total t wt) ∧ Hid (mo = mx wt t) ∧ Hid (Row64 wr G m (fun j => if j < t then wt j else 0)) ∧ Hid (Only [] w1 wr)) (fun _ _ i _ => m - (intOf i).toNat)
  case atStart => exact ⟨0, 0, 0, Nat.zero_le _, rfl, rfl, rfl, by omega, by omega, by omega, Lib.hid rfl, Lib.hid rfl, Lib.hid (H0.out.congr fun i _ => by rw [if_neg (by omega)]), HOa⟩
  case round =>
    clear H0 HOa
    obtain ⟨t, su, mo, ht, rfl, rfl, rfl, hsu, hmo0, hmo1, HSu, HMo, H1, HO1⟩ := hrel
    by_cases hlt : t < m
    ·
      as_aux_lemma =>
        have HSu2 := Lib.hid (show su + wt t = total (t + 1) wt by rw [total, HSu.out])
        have HMo2 := Lib.hid (show max mo (wt t : Int) = mx wt (t + 1) by rw [mx_succ, HMo.out])
        have hwl := HU.out t
        have c1 := H1.out.cell hlt
        have z1 := H1.out.frozen t
        rw [if_neg (Nat.lt_irrefl t)] at c1
        have H2 := Lib.hid (show ∀ y : Nat, wt t = y → Row64 (wr.setCell ⟨G, t, none⟩ (.int .i64 y)) G m (fun j => if j < t + 1 then wt j else 0) from fun y hy => (H1.out.put t y).congr fun i _ => by
          unfold Go.Proofs.Ytbafacdknaopjaa.put
          by_cases e : i = t
          · rw [if_pos e, if_pos (by omega), e, hy]
          · rw [if_neg e]
            show (if i < t then wt i else 0) = _
            by_cases e2 : i < t
            · rw [if_pos e2, if_pos (by omega)]
            · rw [if_neg e2, if_neg (by omega)])
        have HSt := Lib.hid (show ∀ y : Nat, Only [] w1 (wr.setCell ⟨G, t, none⟩ (.int .i64 y)) from fun y => HO1.out.to ((Only.refl [G] wr).setCell (g := G) (i := t) (by simp) (.int .i64 y)) fun i hi hlt => by simp at hi; have := HGs.out; omega)
        obtain ⟨a, ha⟩ : ∃ a, wt t = a := ⟨_, rfl⟩
        rw [ha] at HSu2 HMo2 hwl
        have HAa := Lib.hid ha
        clear ha
        by_cases h0 : 0 < sl
        · obtain ⟨t', ht'⟩ : ∃ t', t % sl = t' := ⟨_, rfl⟩
          have lt' : t' < sl := ht' ▸ Nat.mod_lt _ h0
          have q1 : (t : Int) % (sl : Int) = (t' : Int) := by rw [← ht', Int.natCast_emod]
          have q2 : (t : Int).tmod (sl : Int) = (t' : Int) := by rw [Int.tmod_eq_emod_of_nonneg (by omega)]; exact q1
          have q3 : ¬ (sl : Int) = 0 := by omega
          have q4 : (0 : Int) < (sl : Int) := by omega
          obtain ⟨bz, oz, rfl, cz⟩ := (HY.out.only (HO.out.trans HO1.out)).cell lt'
          have hyt : y t' = (a : Nat) := by
            obtain ⟨b, hb, hb1⟩ := short_nat (HY.out.wf t' lt')
            have := HAa.out
            rw [← HWT.out] at this
            replace this : (if 0 < sl then (y (t % sl)).toNat else 0) = a := this
            rw [if_pos h0, ht', hb] at this
            rw [hb]
            omega
          rw [hyt] at cz
          clear ht' hyt
          go_wp2_with fail
          exact ⟨⟨t + 1, su + a, max mo a, by omega, by go_num, by go_num, by go_num, by omega, by omega, by omega, HSu2, HMo2, Lib.hid (H2.out a HAa.out), Lib.hid (HSt.out a)⟩, by simp [intOf]; omega⟩
        · obtain rfl : a = 0 := by
            have := HAa.out
            rw [← HWT.out] at this
            replace this : (if 0 < sl then (y (t % sl)).toNat else 0) = a := this
            rw [if_neg h0] at this
            exact this.symm
          have h00 : sl = 0 := by omega
          subst h00
          go_wp2_with fail
          have H3 := Lib.hid (H1.out.congr (f' := fun j => if j < t + 1 then wt j else 0) fun i _ => by
            by_cases e : i = t
            · subst e
              rw [if_neg (by omega), if_pos (by omega), HAa.out]
            · by_cases e2 : i < t
              · rw [if_pos e2, if_pos (by omega)]
              · rw [if_neg e2, if_neg (by omega)])
          clear hsl h0 HWT HY
          have e0 : max mo (((0 : Nat) : Int)) = mo := by omega
          rw [e0] at HMo2
          have hsu3 : su ≤ (t + 1) * 65535 := Nat.le_trans hsu (Nat.mul_le_mul_right _ (Nat.le_succ t))
          exact ⟨⟨t + 1, su, mo, by omega, by go_num, rfl, by rw [Int.max_eq_left hmo0], hsu3, by omega, by omega, Lib.hid HSu2.out, HMo2, H3, HO1⟩, by simp [intOf]; omega⟩
    · obtain rfl : t = m := by omega
      have HR := Lib.hid ((H1.out.congr (f' := wt) fun i hi => by rw [if_pos hi]).ints (fun j _ => by have := HU.out j; omega) (by unfold maxLen; omega))
      have HE1 := Lib.hid (HE.out.only HO1.out)
      have CP := Lib.hid (picked_any k hk P pl pc z wr (HZ.out.only (HO.out.trans HO1.out)))
      have HOb := Lib.hid (HO.out.trans HO1.out)
      clear H1 HO1 HO HE HY HWT hlt ht
      go_wp2_with fail
      refine CP.out.mono ?_
      rintro e w2 ⟨r, O, co, fo, rfl, hI, ho, hO2⟩
      have hr := ho.short
      have HR2 := Lib.hid (HR.out.only hO2)
      have HE2 := Lib.hid (HE1.out.only hO2)
      have CW := Lib.hid (dweighted_any t t k r (some ⟨G, 0, none⟩) A O t c co _ U V X fo wt w2 (Nat.le_refl _) (by omega) hk HG.out HR2.out (fun _ _ => rfl) (fun j _ => HU.out j) HE2.out hI ho hr)
      have HS := Lib.hid (sums_of (wt := wt) (drawn_ends HG.out ho))
      have HA0 := Lib.hid (show rA t (nat U) (nat V) (nat fo) wt 0 = mo from (rA_zero t (nat U) (nat V) (nat fo) wt).trans HMo.out.symm)
      have HB0 := Lib.hid (rB_zero t (nat U) (nat V) (nat fo))
      have HO2 := Lib.hid (HOb.out.trans hO2)
      clear hI ho hO2 CP HR HE1 HOb
      obtain ⟨f, hf⟩ : ∃ f, rA t (nat U) (nat V) (nat fo) wt = f := ⟨_, rfl⟩
      obtain ⟨g, hg⟩ : ∃ g, rB t (nat U) (nat V) (nat fo) = g := ⟨_, rfl⟩
      obtain ⟨s, hs⟩ : ∃ s, rC t (nat U) (nat V) (nat fo) wt = s := ⟨_, rfl⟩
      rw [hf, hg, hs] at CW HS
      rw [hf] at HA0
      rw [hg] at HB0
      rw [← HSu.out] at HS
      clear hf hg hs
      go_wp2_with fail
      refine CW.out.mono ?_
      rintro e w3 ⟨A1, c1, A2, c2, A3, c3, rfl, h1, h2, h3, hO3⟩
      have HX := Lib.hid (show ∀ W, Only [] w3 W → IntsIn W .i64 A1 (r + 1) f ∧ IntsIn W .i64 A2 (r + 1) g ∧ IntsIn W .i64 A3 (r + 1) s from fun W hW => ⟨h1.only hW, h2.only hW, h3.only hW⟩)
      have HR3 := Lib.hid (HR2.out.only hO3)
      have HE3 := Lib.hid (HE2.out.only hO3)
      have HO3 := Lib.hid (HO2.out.trans hO3)
      obtain ⟨x1, o1, rfl, a1⟩ := h1.cell (j := 0) (by omega)
      obtain ⟨x2, o2, rfl, a2⟩ := h2.cell (j := 0) (by omega)
      obtain ⟨x3, o3, rfl, a3⟩ := h3.cell (j := 0) (by omega)
      rw [Nat.add_zero] at a1 a2
      rw [HA0.out] at a1
      rw [HB0.out] at a2
      have q1 : (mo != mo) = false := by simp
      have q2 : ((t : Int) != (t : Int)) = false := by simp
      have hr2 : r ≤ 200 := by omega
      clear h1 h2 h3 hO3 CW HR2 HE2 HO2 a3
      go_wp2_with fail
      clear q1 q2 a1 a2
      have cellAt : ∀ {W : World} {A : Option Addr} {n j : Nat} {f : Nat → Int} {b o : Nat}, IntsIn W .i64 (some ⟨b, o, none⟩) n f → j < n → W.cell? ⟨b, o + j, none⟩ = some (.int .i64 (f j)) := fun h hj => by
        obtain ⟨b', o', e, c⟩ := h.cell hj
        cases e
        exact c
      have HC := Lib.hid (show ∀ j, j < r + 1 → w3.cell? ⟨x1, o1 + j, none⟩ = some (.int .i64 (f j)) ∧ w3.cell? ⟨x2, o2 + j, none⟩ = some (.int .i64 (g j)) ∧ w3.cell? ⟨x3, o3 + j, none⟩ = some (.int .i64 (s j)) from fun j hj => by
        obtain ⟨k1, k2, k3⟩ := HX.out w3 (Only.refl _ _)
        exact ⟨cellAt (A := none) k1 hj, cellAt (A := none) k2 hj, cellAt (A := none) k3 hj⟩)
      clear cellAt HX
      have hsu2 : su ≤ 3932100 := by omega
      go_loopw [126] (fun i wj => ∃ j nn : Nat, j ≤ r + 1 ∧ i = .int .i64 j ∧ wj = w3.drewN nn) (fun i _ => r + 1 - (intOf i).toNat)
      case atStart => exact ⟨0, 0, Nat.zero_le _, rfl, rfl⟩
      case round =>
        obtain ⟨j, nn, hj, rfl, rfl⟩ := hrel
        by_cases hlt : j < r + 1
        ·
            as_aux_lemma =>
              obtain ⟨m1, m2, m3⟩ := HC.out j hlt
              have t1 := HS.out.a0 j (by omega)
              have t2 := HS.out.b0 j (by omega)
              have t3 := HS.out.c0 j (by omega)
              obtain ⟨p, hp⟩ : ∃ p, j - 1 = p := ⟨_, rfl⟩
              have HSt := Lib.hid (show 0 < j → f p ≤ f j ∧ s p ≤ s j ∧ g j ≤ g p from fun h0 => by
                have := HS.out.step p (by omega)
                rwa [show p + 1 = j by omega] at this)
              have HCp := Lib.hid (HC.out p (by omega))
              obtain ⟨fa, hfa⟩ : ∃ fa, f j = fa := ⟨_, rfl⟩
              obtain ⟨ga, hga⟩ : ∃ ga, g j = ga := ⟨_, rfl⟩
              obtain ⟨sa, hsa⟩ : ∃ sa, s j = sa := ⟨_, rfl⟩
              rw [hfa] at m1 t1 t3 HSt
              rw [hga] at m2 t2 HSt
              rw [hsa] at m3 t3 HSt
              have p0 : 0 ≤ (su : Int) * fa := Int.mul_nonneg (by omega) t1.1
              have p1 : (su : Int) * fa ≤ 3932100 * 3932100 := Int.le_trans (Int.mul_le_mul_of_nonneg_right (show (su : Int) ≤ 3932100 by omega) t1.1) (Int.mul_le_mul_of_nonneg_left (by omega) (by omega))
              have p2 : 0 ≤ fa * fa := Int.mul_nonneg t1.1 t1.1
              have p3 : fa * fa ≤ 3932100 * 3932100 := Int.le_trans (Int.mul_le_mul_of_nonneg_right (show fa ≤ 3932100 by omega) t1.1) (Int.mul_le_mul_of_nonneg_left (by omega) (by omega))
              obtain ⟨b1, hb1⟩ : ∃ b1, (su : Int) * fa = b1 := ⟨_, rfl⟩
              obtain ⟨b2, hb2⟩ : ∃ b2, fa * fa = b2 := ⟨_, rfl⟩
              rw [hb1] at p0 p1 t3
              rw [hb2] at p2 p3 t3
              have w1' : IntKind.i64.wrap ((su : Int) * fa) = b1 := by rw [hb1]; exact IntWalk.i64_in _ (by omega)
              have w2' : IntKind.i64.wrap (fa * fa) = b2 := by rw [hb2]; exact IntWalk.i64_in _ (by omega)
              have q1 : decide (fa > (su : Int)) = false := decide_eq_false (by omega)
              have q2 : decide (sa > b1) = false := decide_eq_false (by omega)
              have q3 : decide (sa < b2) = false := decide_eq_false (by omega)
              have q4 : decide (ga > (t : Int)) = false := decide_eq_false (by omega)
              clear hfa hga hsa hb1 hb2 p0 p1 p2 p3 t1 t2 t3
              rcases Nat.eq_zero_or_pos j with h0 | h0
              · have q5 : decide (0 < j) = false := decide_eq_false (by omega)
                clear h0 hp
                go_wp2_with fail
                try simp only [List.append_eq, List.cons_append, List.nil_append]
                go_big_quiet (fail)
                go_wp2_with fail
                exact ⟨⟨j + 1, nn + nq, by omega, by go_num, rfl⟩, by simp [intOf]; omega⟩
              · have q5 : decide (0 < j) = true := decide_eq_true h0
                have q6 : (j : Int) - 1 = (p : Int) := by omega
                have hpl : p < r + 1 := by omega
                obtain ⟨n1, n2, n3⟩ := HCp.out
                obtain ⟨s1, s2, s3⟩ := HSt.out h0
                obtain ⟨fb, hfb⟩ : ∃ fb, f p = fb := ⟨_, rfl⟩
                obtain ⟨gb, hgb⟩ : ∃ gb, g p = gb := ⟨_, rfl⟩
                obtain ⟨sb, hsb⟩ : ∃ sb, s p = sb := ⟨_, rfl⟩
                rw [hfb] at n1 s1
                rw [hgb] at n2 s3
                rw [hsb] at n3 s2
                have q7 : decide (fa < fb) = false := decide_eq_false (by omega)
                have q8 : decide (sa < sb) = false := decide_eq_false (by omega)
                have q9 : decide (gb < ga) = false := decide_eq_false (by omega)
                have q9' : ¬ gb < ga := by omega
                clear h0 hp hfb hgb hsb s1 s2 s3
                go_wp2_with fail
                try simp only [List.append_eq, List.cons_append, List.nil_append]
                go_big_quiet (fail)
                go_wp2_with fail
                exact ⟨⟨j + 1, nn + nq, by omega, by go_num, rfl⟩, by simp [intOf]; omega⟩
        · obtain rfl : j = r + 1 := by omega
          have HRw := Lib.hid (HR3.out.only ((Only.refl [] w3).drewN nn))
          have HEw := Lib.hid (HE3.out.only ((Only.refl [] w3).drewN nn))
          have HOw := Lib.hid (HO3.out.drewN nn)
          obtain ⟨W9, hW9⟩ : ∃ W9, w3.drewN nn = W9 := ⟨_, rfl⟩
          rw [hW9] at HRw HEw HOw
          rw [hW9]
          clear hW9 HR3 HE3 HO3 HC HS
          go_wp2_with fail
          go_loopw [21, 22, 215] (fun va vb i wr => ∃ j : Nat, j ≤ k ∧ i = .int .i64 j ∧ Hid (Tri3 W9 wr 3 j va (castI id) 3 j vb (castI (backO k)) 3 0 (.slice none 0 0) (fun _ => 0))) (fun _ _ i _ => k - (intOf i).toNat)
          case atStart => exact ⟨0, Nat.zero_le _, rfl, Lib.hid (Tri3.nil W9 (Below.refl _ _) _ _ _ _ _ _)⟩
          case round =>
            obtain ⟨j, hj, rfl, HT3⟩ := hrel
            by_cases hlt : j < k
            ·
              as_aux_lemma =>
                have hsz := HT3.out.bel.size
                have hbk : (k : Int) - 1 - (j : Int) = ((k - 1 - j : Nat) : Int) := by omega
                go_wp2_with (at_builtin; first
                  | (refine wpList_append_own_at _ rfl _ _ 68 rfl W9.heap.size 3 i1 (.int .i64 0) 1 8 Try.underlying68 gi gz0 gz1 gz2 rfl (by decide) _ _ _ rfl (HT3.out.a.alloc _) ⟨wr.heap.size, 0, none⟩ 1 1 [.int .i64 j] rfl rfl (cell_one_new _ _ _) (by simp [Value.oneCell']) (by unfold maxLen; omega) (by omega) (by simp; omega) ?_; intro v5 w5 hown5 hgrow5 _ hat5; have H5 := Lib.hid (HT3.out.step hown5 hgrow5 hat5); clear hown5 hgrow5 hat5; have hw5 : W9.heap.size ≤ w5.heap.size := H5.out.bel.size)
                  | (refine wpList_append_own_at _ rfl _ _ 68 rfl W9.heap.size 3 i1 (.int .i64 0) 1 8 Try.underlying68 gi gz0 gz1 gz2 rfl (by decide) _ _ _ rfl (H5.out.b.alloc _) ⟨w5.heap.size, 0, none⟩ 1 1 [.int .i64 ((k - 1 - j : Nat) : Int)] rfl rfl (cell_one_new _ _ _) (by simp [Value.oneCell']) (by unfold maxLen; omega) (by omega) (by simp; omega) ?_; intro v6 w6 hown6 hgrow6 _ hat6; have H6 := Lib.hid (H5.out.rot.step hown6 hgrow6 hat6); clear hown6 hgrow6 hat6))
                first
                  | exact ⟨⟨j + 1, by omega, by go_num, Lib.hid H6.out.rot.rot⟩, by simp [intOf]; omega⟩
                  | exact ⟨⟨_, _, _, _, _, _, _, _, _, _, _, _, _, _, _, _, _, _, _, ⟨j + 1, by omega, by go_num, Lib.hid H6.out.rot.rot⟩, rfl⟩, by simp [intOf]; omega⟩
            ·
              as_aux_lemma =>
                obtain rfl : j = k := by omega
                obtain ⟨D1, d1, rfl, hI1⟩ := ints_owned3 HT3.out.a (fun i hi => wf_of (by unfold castI; omega) (by unfold castI; simp; omega))
                obtain ⟨D2, d2, rfl, hI2⟩ := ints_owned3 HT3.out.b (fun i hi => wf_of (by unfold castI; omega) (by unfold castI backO; omega))
                have hOs := only_of_below' HT3.out.bel
                have HI2 := Lib.hid hI2
                have CW1 := Lib.hid (dweighted_any t t j j (some ⟨G, 0, none⟩) A D1 t c d1 _ U V X _ wt wr (Nat.le_refl _) (by omega) hk HG.out (HRw.out.only hOs) (fun _ _ => rfl) (fun i _ => HU.out i) (HEw.out.only hOs) hI1 (id_ordered j) (Nat.le_refl _))
                have CW2 := Lib.hid (fun (W : World) (hW : Only [] wr W) => dweighted_any t t j j (some ⟨G, 0, none⟩) A D2 t c d2 _ U V X _ wt W (Nat.le_refl _) (by omega) hk HG.out (HRw.out.only (hOs.trans hW)) (fun _ _ => rfl) (fun i _ => HU.out i) (HEw.out.only (hOs.trans hW)) (HI2.out.only hW) (back_ordered j) (Nat.le_refl _))
                rw [nat_castI] at CW1 CW2
                have hlab : labK (nat U) (nat V) (backO j) j = labK (nat U) (nat V) id j := labK_perm (back_perm j)
                have hq1 : rA t (nat U) (nat V) (backO j) wt j = rA t (nat U) (nat V) id wt j := by unfold rA; rw [hlab]
                have hq2 : rB t (nat U) (nat V) (backO j) j = rB t (nat U) (nat V) id j := by unfold rB; rw [hlab]
                have hq3 : rC t (nat U) (nat V) (backO j) wt j = rC t (nat U) (nat V) id wt j := by unfold rC; rw [hlab]
                have HQ := Lib.hid (And.intro hq1 (And.intro hq2 hq3))
                have HOs := Lib.hid (HOw.out.trans hOs)
                clear hI1 hI2 hOs HT3 hlab hq1 hq2 hq3 HRw HEw HOw hlt hj
                go_wp2_with fail
                refine CW1.out.mono ?_
                rintro e w11 ⟨A1, c1, A2, c2, A3, c3, rfl, h1, h2, h3, hO11⟩
                have CW2 := Lib.hid (CW2.out w11 hO11)
                have HX := Lib.hid (And.intro h1 (And.intro h2 h3))
                have HO11 := Lib.hid (HOs.out.trans hO11)
                clear h1 h2 h3 hO11 CW1 HOs
                go_wp2_with fail
                refine CW2.out.mono ?_
                rintro e w12 ⟨B1, d1', B2, d2', B3, d3', rfl, h4, h5, h6, hO12⟩
                have HO12 := Lib.hid (HO11.out.trans hO12)
                obtain ⟨h1, h2, h3⟩ := HX.out
                obtain ⟨x1, o1, rfl, m1⟩ := (h1.only hO12).cell (show j < j + 1 by omega)
                obtain ⟨x2, o2, rfl, m2⟩ := (h2.only hO12).cell (show j < j + 1 by omega)
                obtain ⟨x3, o3, rfl, m3⟩ := (h3.only hO12).cell (show j < j + 1 by omega)
                obtain ⟨x4, o4, rfl, m4⟩ := h4.cell (show j < j + 1 by omega)
                obtain ⟨x5, o5, rfl, m5⟩ := h5.cell (show j < j + 1 by omega)
                obtain ⟨x6, o6, rfl, m6⟩ := h6.cell (show j < j + 1 by omega)
                rw [HQ.out.1] at m4
                rw [HQ.out.2.1] at m5
                rw [HQ.out.2.2] at m6
                obtain ⟨ya, hya⟩ : ∃ ya, rA t (nat U) (nat V) id wt j = ya := ⟨_, rfl⟩
                obtain ⟨yb, hyb⟩ : ∃ yb, rB t (nat U) (nat V) id j = yb := ⟨_, rfl⟩
                obtain ⟨yc, hyc⟩ : ∃ yc, rC t (nat U) (nat V) id wt j = yc := ⟨_, rfl⟩
                rw [hya] at m1 m4
                rw [hyb] at m2 m5
                rw [hyc] at m3 m6
                have q1 : (ya == ya) = true := by simp
                have q2 : (yb == yb) = true := by simp
                have q3 : (yc == yc) = true := by simp
                obtain ⟨jl, hjl⟩ : ∃ jl, j + 1 = jl := ⟨_, rfl⟩
                have l1 : j < jl := by omega
                have q0 : ((jl : Int) == (jl : Int)) = true := by simp
                have hw0 : IntKind.i64.wrap (jl : Int) = (jl : Int) := IntWalk.i64_in _ (by omega)
                have hw1 : (j : Int) + 1 = (jl : Int) := by omega
                rw [hjl]
                clear hjl
                clear h1 h2 h3 h4 h5 h6 hO12 CW2 HX HO11 HQ hya hyb hyc
                go_wp2_with fail
                go_still_tail 54, (by kernel_rfl)
                change wpList _ _ _ _ _ w12.drew
                clear m1 m2 m3 m4 m5 m6 q0 q1 q2 q3 hw0 hw1
                go_wp2_with fail
                refine (sworks_any _).mono ?_
                rintro e w13 ⟨rfl, hO13⟩
                have HO13 := Lib.hid ((HO12.out.drewN 1).trans hO13)
                clear hO13
                go_wp2_with fail
                go_ret
                exact ⟨rfl, HO13.out⟩

end Go.Proofs.Ytbafacdknaopjaa
