import Derived.Test.YtipgbbhgmoehfaaDoorYRN
import Derived.Test.YtipgbbhgmoehfaaDoorYTV
/-
  The walk of TopLinkage.
-/
namespace Go.Proofs.YtipgbbhgmoehfaaDoor
open Go.RowKit Go.Shelf
attribute [local go_sem] Oper.semAt_some
set_option linter.unusedSimpArgs false
set_option linter.unusedVariables false
set_option linter.unusedSectionVars false

theorem mgL_size (n : Nat) (p q : Nat → Nat) (h : Nat → Int) : ∀ k, (mgL n p q h k).length = k * 5
  | 0 => rfl
  | k + 1 => by
    show (mgL n p q h k ++ mg1 n p q h k).length = _
    rw [List.length_append, mgL_size n p q h k]
    show k * 5 + 5 = _
    omega
theorem mgL_get {n : Nat} {p q : Nat → Nat} {h : Nat → Int} {i : Nat} : ∀ {k}, i < k → (mgL n p q h k)[i * 5 + 2]? = some (.int .i64 (h i)) ∧ (mgL n p q h k)[i * 5 + 3]? = some (.int .i64 1)
  | 0, hi => absurd hi (Nat.not_lt_zero i)
  | k + 1, hi => by
    show (mgL n p q h k ++ mg1 n p q h k)[i * 5 + 2]? = _ ∧ (mgL n p q h k ++ mg1 n p q h k)[i * 5 + 3]? = _
    by_cases e : i < k
    · rw [List.getElem?_append_left (by rw [mgL_size]; omega), List.getElem?_append_left (by rw [mgL_size]; omega)]
      exact mgL_get e
    · obtain rfl : i = k := by omega
      rw [List.getElem?_append_right (by rw [mgL_size]; omega), List.getElem?_append_right (by rw [mgL_size]; omega), mgL_size, show i * 5 + 2 - i * 5 = 2 by omega, show i * 5 + 3 - i * 5 = 3 by omega]
      exact ⟨rfl, rfl⟩
theorem RowM.cell {W : World} {base cm t i : Nat} {A : Option Addr} {h : Nat → Int} {L : List Value} (hr : RowM W base A cm t h L) (hi : i < t) :
    ∃ b, A = some ⟨b, 0, none⟩ ∧ W.cell? ⟨b, i * 5 + 2, none⟩ = some (.int .i64 (h i)) ∧ W.cell? ⟨b, i * 5 + 3, none⟩ = some (.int .i64 1) := by
  obtain ⟨⟨hl, ⟨e, h0⟩ | ⟨g, cap, cur, e, hb, hh, h1, h2, h3, ht⟩⟩, hat⟩ := hr
  · omega
  · cases e
    obtain ⟨m1, m2⟩ := hat i hi
    rw [← ht, List.getElem?_take, if_pos (by omega)] at m1 m2
    exact ⟨g, rfl, cell_of_heap hh (by simpa using m1), cell_of_heap hh (by simpa using m2)⟩
theorem RowM.only {W W' : World} {base cm t : Nat} {A : Option Addr} {h : Nat → Int} {L : List Value} (hr : RowM W base A cm t h L) (hO : Only [] W W') : RowM W' base A cm t h L := ⟨owns_only hr.own hO, hr.at'⟩
theorem fr_eql (a1 b1 a2 b2 : Int) (w : World) : (binOp .eql 44 (.agg #[.int .i64 a1, .int .i64 b1]) (.agg #[.int .i64 a2, .int .i64 b2])).run Tryd.prog w = .ok (.bool (decide (a1 = a2 ∧ b1 = b2))) w := by
  have yi2 := Tryd.underlying2
  have hS : Tryd.prog.underlying 44 = some (.struct (Tryd.prog.fieldsOf 44)) := by kernel_rfl
  have hp : Tryd.prog.stoodInHeld 44 = false := by kernel_rfl
  rw [run_eql_struct, show (10000 : Nat) = 9999 + 1 from rfl, run_equalIn_agg w 9999 44 _ _ hS hp]
  simp only [Program.fieldsOf, Tryd.underlying44]
  go_simp
  by_cases h1 : a1 = a2 <;> by_cases h2 : b1 = b2 <;> simp [h1, h2]
theorem fr_neq (a1 b1 a2 b2 : Int) (w : World) : (binOp .neq 44 (.agg #[.int .i64 a1, .int .i64 b1]) (.agg #[.int .i64 a2, .int .i64 b2])).run Tryd.prog w = .ok (.bool (!decide (a1 = a2 ∧ b1 = b2))) w := by
  have yi2 := Tryd.underlying2
  have hS : Tryd.prog.underlying 44 = some (.struct (Tryd.prog.fieldsOf 44)) := by kernel_rfl
  have hp : Tryd.prog.stoodInHeld 44 = false := by kernel_rfl
  rw [run_neq_struct, show (10000 : Nat) = 9999 + 1 from rfl, run_equalIn_agg w 9999 44 _ _ hS hp]
  simp only [Program.fieldsOf, Tryd.underlying44]
  go_simp
  by_cases h1 : a1 = a2 <;> by_cases h2 : b1 = b2 <;> simp [h1, h2]

set_option maxRecDepth 100000 in
set_option maxHeartbeats 4000000 in
theorem works23_any (w : World) : Calls Tryd.prog 4 #[] w fun e w' => e = .returned (.bool true) ∧ Only [] w w' := by
  go_enter Tryd.func4, Tryd.ntmps4
  go_wp2_with fail
  obtain ⟨W1, hW1⟩ : ∃ W1, w.alloc (.cells #[.int .i64 0, .int .i64 3, .int .i64 3, .int .i64 0] 2) = W1 := ⟨_, rfl⟩
  have b1 : W1.heap[w.heap.size]? = some (.cells #[.int .i64 0, .int .i64 3, .int .i64 3, .int .i64 0] 2 (0, 0)) := hW1 ▸ heap_alloc_new w _
  have hO1 : Only [] w W1 := hW1 ▸ (Only.refl [] w).alloc _
  rw [hW1]
  obtain ⟨B, hB⟩ : ∃ B, w.heap.size = B := ⟨_, rfl⟩
  rw [hB] at b1 ⊢
  have CR : Calls Tryd.prog 8 #[.int .i64 2, .slice (some ⟨B, 0, none⟩) 4 4, .int .i64 1] W1 (RunPost W1 1 fun _ => 3) :=
    Run_any (n := 2) (c := 1) (cp := 4) (by omega) two_matok ⟨_, b1, fun i hi => by
      have h : i = 0 ∨ i = 1 ∨ i = 2 ∨ i = 3 := by omega
      rcases h with rfl | rfl | rfl | rfl <;> rfl⟩ two_dist
  have HO1 := Lib.hid hO1
  clear hW1 b1 hO1 hB
  refine CR.mono ?_
  rintro e w2 ⟨A, cm, L, rfl, hR, hO2⟩
  obtain ⟨b, rfl, e1, e2⟩ := hR.cell (i := 0) (by omega)
  replace e1 : w2.cell? ⟨b, 2, none⟩ = some (.int .i64 3) := e1
  replace e2 : w2.cell? ⟨b, 3, none⟩ = some (.int .i64 1) := e2
  have HO2 := Lib.hid (HO1.out.trans hO2)
  have hq := fun W => fr_eql 3 1 3 1 W
  rw [decide_eq_true ⟨rfl, rfl⟩] at hq
  clear hR hO2 CR
  go_wp2_with fail
  go_ret
  exact ⟨rfl, HO2.out⟩
set_option maxRecDepth 100000 in
set_option maxHeartbeats 8000000 in
theorem topLinkage_walk (n : Int) (A : Option Addr) (m cp : Nat) (u v x : Nat → Int) (w : World) (hT : Tab w) (h : TripsIn w .i64 A m u v x) :
    Calls Tryd.prog 3 #[.int .i64 n, .slice A m cp] w fun e w' => e = .returned (.bool true) ∧ Below w.heap.size w w' := by
  refine Calls.mono (R := fun e w' => e = .returned (.bool true) ∧ Only [] w w') ?_ fun e w' h => ⟨h.1, h.2.toBelow⟩
  have HE := Lib.hid h.edges
  have HTab := Lib.hid hT
  obtain ⟨k, hk⟩ := gcode_is n m u v
  have CM := Lib.hid (Matrix_any n A m cp u v x w HE.out hT k hk)
  clear h hk hT
  go_enter Tryd.func3, Tryd.ntmps3
  by_cases hbad : 16 < n ∨ (¬ 16 < n ∧ 40 < m)
  · rcases hbad with h1 | ⟨h1, h2⟩
    · go_wp2_with fail
      refine (works23_any _).mono ?_
      rintro e w2 ⟨rfl, hO⟩
      have HO := Lib.hid hO
      clear hO CM
      go_wp2_with fail
      go_ret
      exact ⟨rfl, HO.out⟩
    · have i2 : (40 : Int) < (m : Int) := by omega
      go_wp2_with fail
      refine (works23_any _).mono ?_
      rintro e w2 ⟨rfl, hO⟩
      have HO := Lib.hid hO
      clear hO CM
      go_wp2_with fail
      go_ret
      exact ⟨rfl, HO.out⟩
  have i1 : ¬ (16 : Int) < n := by omega
  have i2 : ¬ (40 : Int) < (m : Int) := by omega
  go_wp2_with fail
  refine CM.out.mono ?_
  rintro e w1 ⟨hO1, ⟨code, h0, rfl⟩ | ⟨hk0, n', o, c, B, hn, hn128, hb, hc, hlt, hx, hJ, rfl, hR⟩⟩
  · have q1 : (code != 0) = true := by simpa using h0
    have HO1 := Lib.hid hO1
    clear hO1 CM
    go_wp2_with fail
    refine (works23_any _).mono ?_
    rintro e w2 ⟨rfl, hO⟩
    have HO := Lib.hid (HO1.out.trans hO)
    clear hO
    go_wp2_with fail
    go_ret
    exact ⟨rfl, HO.out⟩
  subst hn
  have HK := Lib.hid hk0
  have HO1 := Lib.hid hO1
  have HB := Lib.hid (And.intro hb (And.intro hc (And.intro hlt hx)))
  have HJ := Lib.hid hJ
  have HR := Lib.hid hR
  have CN := Lib.hid (MNew_any n' A m cp u v x w1 (HE.out.only hO1) (HTab.out.only hO1 (by simp)) 0 hk0)
  clear hO1 CM hb hc hlt hx hJ hR hk0 hbad
  go_wp2_with fail
  refine CN.out.mono ?_
  rintro e w2 ⟨hO2, ⟨h00, rfl⟩ | ⟨_, n2, o2, c2, F, hn2, hb2, hc2, hlt2, rfl, hF⟩⟩
  · exact absurd rfl h00
  obtain rfl : n2 = n' := by omega
  have HO2 := Lib.hid (HO1.out.trans hO2)
  have HR2 := Lib.hid (HR.out.only hO2 (by simp))
  have HF := Lib.hid hF
  have HB2 := Lib.hid (And.intro hb2 hc2)
  have CB := Lib.hid (Build_any n2 A m cp u v x w2 (HE.out.only HO2.out) 0 HK.out)
  clear hO2 CN hb2 hc2 hlt2 hF HR HO1
  go_wp2_with fail
  refine CB.out.mono ?_
  rintro e w3 ⟨hO3, ⟨h0, rfl⟩ | ⟨_, n3, o3, c3, s, L, R, P, H, Z, hn3, hb3, hc3, hlt3, rfl, hI⟩⟩
  · exact absurd rfl h0
  obtain rfl : n3 = n2 := by omega
  have HO3 := Lib.hid (HO2.out.trans hO3)
  have HR3 := Lib.hid (HR2.out.only hO3 (by simp))
  have HF3 := Lib.hid (HF.out.only hO3)
  have HB3 := Lib.hid (And.intro hb3 hc3)
  have HI := Lib.hid hI
  unfold treeV treeCells
  clear CB hO3 hb3 hc3 hlt3 hI HO2 HR2 HF
  go_upto_region 8 with (fail)
  obtain ⟨w4, hw4⟩ : ∃ w4, w3.alloc (.cells (treeCells n3 s L R P H Z) 33) = w4 := ⟨_, rfl⟩
  have hT4 : w4.heap[w3.heap.size]? = some (.cells (treeCells n3 s L R P H Z) 33 (0, 0)) := hw4 ▸ heap_alloc_new w3 _
  have hO4 : Only [] w3 w4 := hw4 ▸ (Only.refl [] w3).alloc _
  unfold treeCells at hw4
  rw [hw4]
  obtain ⟨TB, hTB⟩ : ∃ TB, w3.heap.size = TB := ⟨_, rfl⟩
  rw [hTB] at hT4 ⊢
  obtain ⟨hb, hc, hlt, hx⟩ := HB.out
  have hMat := mm_matok hb hc hlt hx HJ.out
  have hDist := mm_dist hb hc hlt HJ.out
  have hAgr := fun (a b : Nat) (ha : a < n3) (hb' : b < n3) (hne : a ≠ b) => mm_agree hb hc hlt HJ.out HB2.out.1 HB2.out.2 ha hb' hne
  have hcc : c3 = c := by rw [← hc, ← HB3.out.2]; exact same_len HB3.out.1 hb hlt
  have hhe : ∀ i, i < c → x (sel (fl (nat u) (nat v) o m) i) = x (sel (fl (nat u) (nat v) o3 m) i) := fun i hi => same_height hb HB3.out.1 hlt (by rw [hc]; exact hi)
  have hR4 := HR3.out.only hO4 (by simp)
  obtain ⟨D, hD⟩ : ∃ D, mmD (fun i => nat u (sel (fl (nat u) (nat v) o m) i)) (fun i => nat v (sel (fl (nat u) (nat v) o m) i)) (fun i => x (sel (fl (nat u) (nat v) o m) i)) c = D := ⟨_, rfl⟩
  rw [hD] at hMat hDist hR4
  simp only [hD] at hAgr
  replace hR4 : RowZ w4 2 B (n3 * n3) (matF n3 D) := hR4
  have CR := Lib.hid (Run_any (cp := n3 * n3) hn128 hMat hR4 hDist)
  have hcn : c ≤ n3 := by have := hDist.mrg.roots (Nat.le_refl c); omega
  obtain ⟨nn, hnn⟩ : ∃ nn, n3 * n3 = nn := ⟨_, rfl⟩
  have hnb : nn ≤ 16384 := by
    have := Nat.mul_le_mul hn128 hn128
    omega
  have hm1 : (n3 : Int) * (n3 : Int) = (nn : Int) := by rw [← hnn]; simp
  have HNN := Lib.hid hnn
  rw [hnn] at CR hR4 ⊢
  subst hcc
  have HAg := Lib.hid hAgr
  have HHe := Lib.hid hhe
  have HR4 := Lib.hid hR4
  have HF4 := Lib.hid (HF3.out.only hO4)
  have HI4 := Lib.hid (HI.out.only hO4)
  have HT4 := Lib.hid hT4
  have HO4 := Lib.hid (HO3.out.trans hO4)
  clear hw4 hT4 hO4 hTB hb hc hlt hx hMat hDist hAgr hhe hR4 hD hnn HR3 HF3 HI HO3 HB HJ HB2 HB3 HK
  go_wp2_with fail
  refine CR.out.mono ?_
  rintro e w5 ⟨A5, cm5, L5, rfl, hM5, hO5⟩
  have HM5 := Lib.hid hM5
  have HO5 := Lib.hid (HO4.out.trans hO5)
  have HR5 := Lib.hid (HR4.out.only hO5 (by simp))
  have HF5 := Lib.hid (HF4.out.only hO5)
  have HI5 := Lib.hid (HI4.out.only hO5)
  have HT5 := Lib.hid ((hO5.block _ (heap_lt HT4.out) (by simp)).trans HT4.out)
  clear hM5 hO5 CR HR4 HF4 HI4 HT4 HO4
  go_wp2_with fail
  go_loopw [13] (fun y wr => ∃ U : Nat, U ≤ n3 ∧ y = .int .i64 U ∧ Hid (Only [] w5 wr)) (fun y _ => n3 - (intOf y).toNat)
  case atStart => exact ⟨0, Nat.zero_le _, rfl, Lib.hid (Only.refl _ _)⟩
  case round =>
    obtain ⟨U, hU, rfl, HO⟩ := hrel
    by_cases hlU : U < n3
    · go_wp2_with fail
      go_loopw [14] (fun y wr => ∃ V : Nat, V ≤ n3 ∧ y = .int .i64 V ∧ Hid (Only [] w5 wr)) (fun y _ => n3 - (intOf y).toNat)
      case atStart => exact ⟨0, Nat.zero_le _, rfl, HO⟩
      case round =>
        clear HO
        obtain ⟨V, hV, rfl, HO⟩ := hrel
        by_cases hlV : V < n3
        · have CMm := Lib.hid (Minimax_any (HF5.out.only HO.out) U V hlU hlV)
          go_wp2_with fail
          refine CMm.out.mono ?_
          rintro e w7 ⟨hO7, ⟨e1, rfl⟩ | ⟨hne, h2, rfl⟩ | ⟨hne, kk, k1, k2, k3, rfl⟩⟩
          · have HO7 := Lib.hid (HO.out.trans hO7)
            have q1 : ((U : Int) != (V : Int)) = false := by simp; omega
            have HUV := Lib.hid e1
            clear hO7 CMm e1
            go_wp2_with fail
            exact ⟨⟨V + 1, by omega, by go_num, HO7⟩, by simp [intOf]; omega⟩
          · exact absurd (HAg.out U V hlU hlV hne).1 h2
          · have hval := (HAg.out U V hlU hlV hne).2 kk k1 k2 k3
            obtain ⟨tt, htt⟩ : ∃ tt, x (sel (fl (nat u) (nat v) o2 m) kk) = tt := ⟨_, rfl⟩
            rw [htt] at hval ⊢
            obtain ⟨i1, hi1⟩ : ∃ i1, U * n3 = i1 := ⟨_, rfl⟩
            have l1 := mat_lt hlU hlV
            have c1 := (HR5.out.only (HO.out.trans hO7) (by simp)).cell (i := U * n3 + V) (by rw [← HNN.out]; exact l1)
            rw [matF_at hlV, hval, hi1] at c1
            rw [HNN.out, hi1] at l1
            have hm2 : (U : Int) * (n3 : Int) = (i1 : Int) := by rw [← hi1]; simp
            have r1 : ((i1 : Int) + (V : Int)).toNat = i1 + V := by omega
            have r2 : (i1 : Int) + (V : Int) < (nn : Int) := by omega
            have q1 : ((U : Int) != (V : Int)) = true := by simp; omega
            have HO7 := Lib.hid (HO.out.trans hO7)
            clear hO7 CMm hval htt hi1 hne k1 k2 k3
            go_wp2_with fail
            exact ⟨⟨V + 1, by omega, by go_num, HO7⟩, by simp [intOf]; omega⟩
        · obtain rfl : V = n3 := by omega
          go_wp2_with fail
          exact ⟨⟨U + 1, by omega, by go_num, HO⟩, by simp [intOf]; omega⟩
    · obtain rfl : U = n3 := by omega
      have hT := (HO.out.block _ (heap_lt HT5.out) (by simp)).trans HT5.out
      have f0 := cell_of_heap (i := 0) hT rfl
      have f1 := cell_of_heap (i := 1) hT rfl
      have f2 := cell_of_heap (i := 2) hT rfl
      have f3 := cell_of_heap (i := 3) hT rfl
      have f4 := cell_of_heap (i := 4) hT rfl
      have f5 := cell_of_heap (i := 5) hT rfl
      replace f0 : wr.cell? ⟨TB, 0, none⟩ = some (.int .i64 U) := f0
      replace f1 : wr.cell? ⟨TB, 1, none⟩ = some (.slice (some ⟨L, 0, none⟩) s s) := f1
      replace f2 : wr.cell? ⟨TB, 2, none⟩ = some (.slice (some ⟨R, 0, none⟩) s s) := f2
      replace f3 : wr.cell? ⟨TB, 3, none⟩ = some (.slice (some ⟨P, 0, none⟩) s s) := f3
      replace f4 : wr.cell? ⟨TB, 4, none⟩ = some (.slice (some ⟨H, 0, none⟩) s s) := f4
      replace f5 : wr.cell? ⟨TB, 5, none⟩ = some (.slice (some ⟨Z, 0, none⟩) s s) := f5
      have CMg := Lib.hid (Merges_any (HI5.out.only HO.out))
      unfold treeV treeCells at CMg
      clear hT HR5 HF5 HAg hlU
      go_wp2_with fail
      refine CMg.out.mono ?_
      rintro e w8 ⟨_, A8, c8, rfl, rfl, hM8, hO8⟩
      have HM8 := Lib.hid (show RowM w8 wr.heap.size A8 c8 c3 (fun i => x (sel (fl (nat u) (nat v) o3 m) i)) _ from ⟨hM8, fun i hi => mgL_get hi⟩)
      have HM5' := Lib.hid ((HM5.out.only HO.out).only hO8)
      have HO8 := Lib.hid (HO5.out.trans (HO.out.trans hO8))
      clear hM8 hO8 CMg HM5 HO HO5 HT5 HI5 f0 f1 f2 f3 f4 f5
      go_wp2_with fail
      go_loopw [18] (fun y wx => ∃ i : Nat, i ≤ c3 ∧ y = .int .i64 i ∧ Hid (Only [] w8 wx)) (fun y _ => c3 - (intOf y).toNat)
      case atStart => exact ⟨0, Nat.zero_le _, rfl, Lib.hid (Only.refl _ _)⟩
      case round =>
        obtain ⟨i, hi, rfl, HO⟩ := hrel
        by_cases hlt : i < c3
        · obtain ⟨b, rfl, e1, e2⟩ := (HM5'.out.only HO.out).cell hlt
          obtain ⟨b', rfl, e3, e4⟩ := (HM8.out.only HO.out).cell hlt
          have hh := HHe.out i hlt
          try dsimp only at e1 e3
          rw [hh] at e1
          obtain ⟨hv, hhv⟩ : ∃ hv, x (sel (fl (nat u) (nat v) o3 m) i) = hv := ⟨_, rfl⟩
          rw [hhv] at e1 e3
          have e2' := e2
          have e4' := e4
          rw [show i * 5 + 3 = i * 5 + 2 + 1 by omega] at e2' e4'
          have hq := fun W => fr_neq hv 1 hv 1 W
          rw [decide_eq_true ⟨rfl, rfl⟩] at hq
          have q1 : (i : Int) < (c3 : Int) := by omega
          have q0 : (0 : Int) ≤ (i : Int) := by omega
          clear hh hhv
          go_wp2_with fail
          go_quiet (fail)
          go_wp2_with fail
          exact ⟨⟨i + 1, by omega, by go_num, Lib.hid (HO.out.drewN _)⟩, by simp [intOf]; omega⟩
        · obtain rfl : i = c3 := by omega
          go_wp2_with fail
          refine (works23_any _).mono ?_
          rintro e w9 ⟨rfl, hO9⟩
          have HOz := Lib.hid (HO8.out.trans (HO.out.trans hO9))
          clear hO9
          go_wp2_with fail
          go_ret
          exact ⟨rfl, HOz.out⟩

end Go.Proofs.YtipgbbhgmoehfaaDoor
