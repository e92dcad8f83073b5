import Derived.Test.YtipgbbhgmoehfaaYCB
import Derived.Test.YtipgbbhgmoehfaaYDM
import Derived.Test.YtipgbbhgmoehfaaYTK
import Derived.Test.YtipgbbhgmoehfaaYM4
import Derived.Test.YtipgbbhgmoehfaaYP
import Derived.Test.YtipgbbhgmoehfaaYE3
/-
  The walk of TopHeights.
-/
namespace Go.Proofs.Ytipgbbhgmoehfaa
open Go.RowKit
attribute [local go_sem] Oper.semAt_some
set_option linter.unusedSimpArgs false
set_option linter.unusedVariables false
set_option linter.unusedSectionVars false

theorem mgL_len (n : Nat) (p q : Nat → Nat) (h : Nat → Int) : ∀ k, (mgL n p q h k).length = k * 5
  | 0 => rfl
  | k + 1 => by
    show (mgL n p q h k ++ mg1 n p q h k).length = _
    rw [List.length_append, mgL_len n p q h k]
    show k * 5 + 5 = _
    omega
theorem mgL_at {n : Nat} {p q : Nat → Nat} {h : Nat → Int} {i : Nat} : ∀ {k}, i < k → (mgL n p q h k)[i * 5 + 2]? = some (.int .i64 (h i)) ∧ (mgL n p q h k)[i * 5 + 3]? = some (.int .i64 1)
  | 0, hi => absurd hi (Nat.not_lt_zero i)
  | k + 1, hi => by
    show (mgL n p q h k ++ mg1 n p q h k)[i * 5 + 2]? = _ ∧ (mgL n p q h k ++ mg1 n p q h k)[i * 5 + 3]? = _
    by_cases e : i < k
    · rw [List.getElem?_append_left (by rw [mgL_len]; omega), List.getElem?_append_left (by rw [mgL_len]; omega)]
      exact mgL_at e
    · obtain rfl : i = k := by omega
      rw [List.getElem?_append_right (by rw [mgL_len]; omega), List.getElem?_append_right (by rw [mgL_len]; omega), mgL_len, show i * 5 + 2 - i * 5 = 2 by omega, show i * 5 + 3 - i * 5 = 3 by omega]
      exact ⟨rfl, rfl⟩
theorem merge_cells {W : World} {base : Nat} {A : Option Addr} {n c cp : Nat} {p q : Nat → Nat} {h : Nat → Int} (ho : W.ownsRow base 62 5 (.slice A c cp) c (mgL n p q h c)) {i : Nat} (hi : i < c) :
    ∃ b, A = some ⟨b, 0, none⟩ ∧ W.cell? ⟨b, i * 5 + 2, none⟩ = some (.int .i64 (h i)) ∧ W.cell? ⟨b, i * 5 + 3, none⟩ = some (.int .i64 1) := by
  obtain ⟨hl, ⟨e, h0⟩ | ⟨g, cap, cur, e, hb, hh, h1, h2, h3, ht⟩⟩ := ho
  · omega
  · cases e
    obtain ⟨m1, m2⟩ := mgL_at (n := n) (p := p) (q := q) (h := h) hi
    rw [← ht, List.getElem?_take, if_pos (by omega)] at m1 m2
    exact ⟨g, rfl, cell_of_heap hh (by simpa using m1), cell_of_heap hh (by simpa using m2)⟩
theorem frac_eql (a1 b1 a2 b2 : Int) (w : World) : (binOp .eql 60 (.agg #[.int .i64 a1, .int .i64 b1]) (.agg #[.int .i64 a2, .int .i64 b2])).run Try.prog w = .ok (.bool (decide (a1 = a2 ∧ b1 = b2))) w := by
  have yi2 := Try.underlying2
  have hS : Try.prog.underlying 60 = some (.struct (Try.prog.fieldsOf 60)) := by kernel_rfl
  have hp : Try.prog.stoodInHeld 60 = false := by kernel_rfl
  rw [run_eql_struct, show (10000 : Nat) = 9999 + 1 from rfl, run_equalIn_agg w 9999 60 _ _ hS hp]
  simp only [Program.fieldsOf, Try.underlying60]
  go_simp
  by_cases h1 : a1 = a2 <;> by_cases h2 : b1 = b2 <;> simp [h1, h2]

theorem row_field1 (a b c : Int) (w : World) : (Instr.field 39 (.agg #[.int .i64 a, .int .i64 b, .int .i64 c]) 1).run Try.prog w = .ok (.int .i64 b) w := by
  simp [Instr.field, run_underlying Try.underlying39, asAgg, part, Sem.run_bind, go_sem]

set_option maxRecDepth 100000 in
set_option maxHeartbeats 4000000 in
theorem works22_any (w : World) : Calls Try.prog 14 #[] w fun e w' => e = .returned (.bool true) ∧ Only [] w w' := by
  go_enter Try.func14, Try.ntmps14
  go_wp2_with fail
  obtain ⟨W1, hW1⟩ : ∃ W1, w.alloc (.cells #[.int .i64 0, .int .i64 1, .int .i64 5] 43) = W1 := ⟨_, rfl⟩
  have b1 : W1.heap[w.heap.size]? = some (.cells #[.int .i64 0, .int .i64 1, .int .i64 5] 43 (0, 0)) := hW1 ▸ heap_alloc_new w _
  have hO1 : Only [] w W1 := hW1 ▸ (Only.refl [] w).alloc _
  have hE : EdgesIn W1 (some ⟨w.heap.size, 0, none⟩) 1 (fun _ => 0) (fun _ => 1) (fun _ => 5) := ⟨fun _ => ⟨_, 0, rfl, heap_lt b1, fun j hj => by
    obtain rfl : j = 0 := by omega
    exact ⟨cell_of_heap (i := 0) b1 rfl, cell_of_heap (i := 1) b1 rfl, cell_of_heap (i := 2) b1 rfl⟩⟩, fun j hj => ⟨by decide, by decide, by decide⟩, by unfold maxLen; omega⟩
  have hk : GCode 2 1 (fun _ => 0) (fun _ => 1) 0 := .inr ⟨by omega, .inr ⟨fun j hj => by refine ⟨⟨⟨?_, ?_⟩, ?_, ?_⟩, ?_⟩ <;> simp, rfl⟩⟩
  have CB := Lib.hid (Build_any 2 _ 1 1 _ _ _ W1 hE 0 hk)
  have HO1 := Lib.hid hO1
  rw [hW1]
  clear hW1 b1 hO1 hE hk
  refine CB.out.mono ?_
  rintro e w2 ⟨hO2, ⟨h0, rfl⟩ | ⟨h00, n, o, c, s, L, R, P, H, Z, hn, hb, hc, hlt, rfl, hI⟩⟩
  · exact absurd rfl h0
  obtain rfl : n = 2 := by omega
  have ho : o 0 = 0 := by have := hb.lt (i := 0) (by omega); omega
  have hc1 : c = 1 := by
    rw [← hc]
    show (fl (nat fun _ => 0) (nat fun _ => 1) o (0 + 1)).length = 1
    unfold fl
    rw [if_neg (by show ¬ (nat (fun _ => 0) (o 0) : Nat) = nat (fun _ => 1) (o 0); simp [nat])]
    rfl
  subst hc1
  have HO2 := Lib.hid (HO1.out.trans hO2)
  have CM := Lib.hid (fun W (hO : Only [] w2 W) => Merges_any (hI.only hO))
  unfold treeV treeCells at CM
  unfold treeV treeCells
  clear CB hO2 hI hb hc hlt ho h00 hn
  go_wp2_with fail
  refine (CM.out _ ((Only.refl [] _).alloc _)).mono ?_
  rintro e w3 ⟨_, A, cp, rfl, rfl, hR, hO3⟩
  obtain ⟨b, rfl, e1, e2⟩ := merge_cells hR (i := 0) (by omega)
  replace e1 : w3.cell? ⟨b, 2, none⟩ = some (.int .i64 5) := e1
  replace e2 : w3.cell? ⟨b, 3, none⟩ = some (.int .i64 1) := e2
  have HO3 := Lib.hid ((HO2.out.trans ((Only.refl [] _).alloc _)).trans hO3)
  have hq := fun W => frac_eql 5 1 5 1 W
  rw [decide_eq_true ⟨rfl, rfl⟩] at hq
  clear hR hO3 CM
  go_wp2_with fail
  go_ret
  exact ⟨rfl, HO3.out⟩

theorem int_bounds {x : Int} (h : (Lit.int .i64 x).wf = true) : -9223372036854775808 ≤ x ∧ x ≤ 9223372036854775807 := by simpa [Lit.wf, IntKind.min, IntKind.max, IntKind.bits, IntKind.signed] using h
set_option maxRecDepth 100000 in
set_option maxHeartbeats 8000000 in
theorem topHeights_walk (n : Int) (A : Option Addr) (m cp : Nat) (u v x : Nat → Int) (hh : Int) (w : World) (hw : (Lit.int .i64 hh).wf = true) (h : TripsIn w .i64 A m u v x) :
    Calls Try.prog 4 #[.int .i64 n, .slice A m cp, .int .i64 hh] w fun e w' => e = .returned (.bool true) ∧ Below w.heap.size w w' := by
  refine Calls.mono (R := fun e w' => e = .returned (.bool true) ∧ Only [] w w') ?_ fun e w' h => ⟨h.1, h.2.toBelow⟩
  have HE := Lib.hid h.edges
  obtain ⟨k, hk⟩ := gcode_is n m u v
  have HK := Lib.hid hk
  have CG := Lib.hid (GNew_any n A m cp u v x w HE.out k hk)
  clear h hk
  go_enter Try.func4, Try.ntmps4
  go_wp2_with fail
  refine CG.out.mono ?_
  rintro e w1 ⟨hO1, ⟨h0, rfl⟩ | ⟨rfl, G, S0, L0, A0, c0, fs, rfl, hG⟩⟩
  · have q1 : (k != 0) = true := by simpa using h0
    have HO1 := Lib.hid hO1
    clear hO1 CG
    go_wp2_with fail
    refine (works22_any _).mono ?_
    rintro e w2 ⟨rfl, hO⟩
    have HO := Lib.hid (HO1.out.trans hO)
    clear hO
    go_wp2_with fail
    go_ret
    exact ⟨rfl, HO.out⟩
  have HO1 := Lib.hid hO1
  obtain ⟨⟨hn0, hn1, hm⟩, hg⟩ := gcode_ok HK.out
  obtain ⟨n, rfl⟩ : ∃ n' : Nat, n = (n' : Int) := ⟨n.toNat, by omega⟩
  have HG := Lib.hid (show GAt w1 G n m u v x from GAt.of hG.out.1 hG.out.2)
  have Hpq := Lib.hid (show ∀ j, j < m → u j = nat u j ∧ v j = nat v j ∧ nat u j < n ∧ nat v j < n from fun j hj => by
    have h2 := (hg j hj).1
    unfold InE at h2
    unfold nat
    omega)
  clear hO1 CG hG hg
  by_cases hbad : 40 < n ∨ (¬ 40 < n ∧ 120 < m)
  · rcases hbad with h1 | ⟨h1, h2⟩
    · have i1 : (40 : Int) < (n : Int) := by omega
      go_wp2_with fail
      refine (works22_any _).mono ?_
      rintro e w2 ⟨rfl, hO⟩
      have HO := Lib.hid (HO1.out.trans hO)
      clear hO
      go_wp2_with fail
      go_ret
      exact ⟨rfl, HO.out⟩
    · have i1 : ¬ (40 : Int) < (n : Int) := by omega
      have i2 : (120 : Int) < (m : Int) := by omega
      go_wp2_with fail
      refine (works22_any _).mono ?_
      rintro e w2 ⟨rfl, hO⟩
      have HO := Lib.hid (HO1.out.trans hO)
      clear hO
      go_wp2_with fail
      go_ret
      exact ⟨rfl, HO.out⟩
  have i1 : ¬ (40 : Int) < (n : Int) := by omega
  have i2 : ¬ (120 : Int) < (m : Int) := by omega
  have CB := Lib.hid (Build_any n A m cp u v x w1 (HE.out.only HO1.out) 0 HK.out)
  clear hbad hn0 hn1 hm
  go_wp2_with fail
  refine CB.out.mono ?_
  rintro e w2 ⟨hO2, ⟨h0, rfl⟩ | ⟨_, n', o, c, s, L, R, P, H, Z, hn, hb, hc, hlt, rfl, hI⟩⟩
  · exact absurd rfl h0
  obtain rfl : n' = n := by omega
  have HO2 := Lib.hid (HO1.out.trans hO2)
  have HI := Lib.hid hI
  have HB := Lib.hid (And.intro hb (And.intro hc hlt))
  have HG2 := Lib.hid (HG.out.only hO2)
  unfold treeV treeCells
  clear CB hO2 hI hb hc hlt HG
  go_upto_region 5 with (fail)
  obtain ⟨w3, hw3⟩ : ∃ w3, w2.alloc (.cells (treeCells n' s L R P H Z) 50) = w3 := ⟨_, rfl⟩
  have hT : w3.heap[w2.heap.size]? = some (.cells (treeCells n' s L R P H Z) 50 (0, 0)) := hw3 ▸ heap_alloc_new w2 _
  have hO3 : Only [] w2 w3 := hw3 ▸ (Only.refl [] w2).alloc _
  unfold treeCells at hw3
  rw [hw3]
  obtain ⟨TB, hTB⟩ : ∃ TB, w2.heap.size = TB := ⟨_, rfl⟩
  rw [hTB] at hT ⊢
  have HT := Lib.hid hT
  have HI3 := Lib.hid (HI.out.only hO3)
  have HG3 := Lib.hid (HG2.out.only hO3)
  have HO3 := Lib.hid (HO2.out.trans hO3)
  have CN := Lib.hid (CNew_any n' A m cp u v x w3 (HE.out.only HO3.out) 0 HK.out)
  clear hw3 hT hO3 HI HG2 HO2
  go_wp2_with fail
  refine CN.out.mono ?_
  rintro e w4 ⟨hO4, ⟨h0, rfl⟩ | ⟨_, n2, o2, c2, s2, L2, R2, P2, H2, Z2, VB, TT, LS, hn2, hb2, hc2, hlt2, rfl, hV⟩⟩
  · exact absurd rfl h0
  obtain rfl : n2 = n' := by omega
  have hT4 := (hO4.block _ (heap_lt HT.out) (by simp)).trans HT.out
  have f0 := cell_of_heap (i := 0) hT4 rfl
  have f1 := cell_of_heap (i := 1) hT4 rfl
  have f2 := cell_of_heap (i := 2) hT4 rfl
  have f3 := cell_of_heap (i := 3) hT4 rfl
  have f4 := cell_of_heap (i := 4) hT4 rfl
  have f5 := cell_of_heap (i := 5) hT4 rfl
  replace f0 : w4.cell? ⟨TB, 0, none⟩ = some (.int .i64 n2) := f0
  replace f1 : w4.cell? ⟨TB, 1, none⟩ = some (.slice (some ⟨L, 0, none⟩) s s) := f1
  replace f2 : w4.cell? ⟨TB, 2, none⟩ = some (.slice (some ⟨R, 0, none⟩) s s) := f2
  replace f3 : w4.cell? ⟨TB, 3, none⟩ = some (.slice (some ⟨P, 0, none⟩) s s) := f3
  replace f4 : w4.cell? ⟨TB, 4, none⟩ = some (.slice (some ⟨H, 0, none⟩) s s) := f4
  replace f5 : w4.cell? ⟨TB, 5, none⟩ = some (.slice (some ⟨Z, 0, none⟩) s s) := f5
  have CM := Lib.hid (Merges_any (HI3.out.only hO4))
  unfold treeV treeCells at CM
  have HV := Lib.hid hV
  have HB2 := Lib.hid (And.intro hb2 (And.intro hc2 hlt2))
  have HG4 := Lib.hid (HG3.out.only hO4)
  have HO4 := Lib.hid (HO3.out.trans hO4)
  clear hO4 hT4 CN hV hb2 hc2 hlt2 HT HG3 HO3
  go_wp2_with fail
  refine CM.out.mono ?_
  rintro e w5 ⟨_, A5, c5, rfl, rfl, hM, hO5⟩
  have HM := Lib.hid hM
  have HV5 := Lib.hid (HV.out.only hO5)
  have HG5 := Lib.hid (HG4.out.only hO5)
  have HO5 := Lib.hid (HO4.out.trans hO5)
  have CR := Lib.hid (GRow_any (p := nat u) (q := nat v) HG5.out (by omega) Hpq.out)
  have hrc := all_count (n := n2) HB.out.1 HB.out.2.2
  rw [HB.out.2.1] at hrc
  obtain ⟨rr, hrr⟩ : ∃ rr, roots n2 (labK (nat u) (nat v) id m) = rr := ⟨_, rfl⟩
  rw [hrr] at CR hrc
  have q5 : (c : Int) = (n2 : Int) - (rr : Int) := by omega
  have q6 : ((c : Int) != ((n2 : Int) - (rr : Int))) = false := by simp; omega
  clear hM hO5 CM f0 f1 f2 f3 f4 f5 HV HG4 HO4
  go_wp2_with fail
  refine CR.out.mono ?_
  rintro e w6 ⟨rfl, hO6⟩
  have HM6 := Lib.hid (owns_only HM.out hO6)
  have HV6 := Lib.hid (HV5.out.only hO6)
  have HO6 := Lib.hid (HO5.out.trans hO6)
  clear hO6 CR HG5 HM HV5 HO5
  have hfr := row_field1
  obtain ⟨kb, kb0, kb1, kb2, kb3⟩ := theta_count HB.out.1 HB.out.2.2 hh
  obtain ⟨ka, ka0, ka1, ka2, ka3⟩ := theta_count HB.out.1 HB.out.2.2 (hh - 1)
  obtain ⟨kd, kd0, kd1, kd2, _⟩ := theta_count HB2.out.1 HB2.out.2.2 hh
  obtain ⟨ke, ke0, ke1, ke2, _⟩ := theta_count HB2.out.1 HB2.out.2.2 (hh - 1)
  have s1 := same_roots HB2.out.1 HB2.out.2.2 kd0 kd1 kd2
  have s2' := same_roots HB2.out.1 HB2.out.2.2 ke0 ke1 ke2
  rw [HB.out.2.1] at kb0 kb2 ka0 ka2
  rw [HB2.out.2.1] at kd0 kd2 ke0 ke2
  have hwb := int_bounds hw
  have hx0 : hh = -9223372036854775808 → ka = 0 := fun e => by
    by_cases e0 : ka = 0
    · exact e0
    · have g1 := ka1 0 (by omega)
      have g2 := int_bounds (HE.out.wf _ (fl_mem (p := nat u) (q := nat v) (o := o) HB.out.1.lt (Nat.le_refl _) (sel_at (l := fl (nat u) (nat v) o m) (j := 0) (by rw [HB.out.2.1]; omega)))).2.2
      omega
  have hkab : ka ≤ kb := by
    by_cases e : ka ≤ kb
    · exact e
    · have g1 := ka1 kb (by omega)
      have g2 := kb2 kb (Nat.le_refl _) (by omega)
      omega
  have CCb := Lib.hid (fun W (hO : Only [] w6 W) => CCount_any (HV6.out.only hO) hh kd kd0 kd1 kd2)
  have CCa := Lib.hid (fun W (hO : Only [] w6 W) => CCount_any (HV6.out.only hO) (hh - 1) ke ke0 ke1 ke2)
  rw [s1] at CCb
  rw [s2'] at CCa
  obtain ⟨Rb, hRb⟩ : ∃ Rb, roots n2 (labLe (nat u) (nat v) m x hh) = Rb := ⟨_, rfl⟩
  obtain ⟨Ra, hRa⟩ : ∃ Ra, roots n2 (labLe (nat u) (nat v) m x (hh - 1)) = Ra := ⟨_, rfl⟩
  rw [hRb] at CCb kb3
  rw [hRa] at CCa ka3
  have Hs := Lib.hid (show ∀ i, i < c → (x (sel (fl (nat u) (nat v) o m) i) = hh ∧ ka ≤ i ∧ i < kb) ∨ (x (sel (fl (nat u) (nat v) o m) i) ≠ hh ∧ (i < ka ∨ kb ≤ i)) from fun i hi => by
    by_cases e : x (sel (fl (nat u) (nat v) o m) i) = hh
    · refine .inl ⟨e, ?_, ?_⟩
      · by_cases e2 : ka ≤ i
        · exact e2
        · have := ka1 i (by omega); omega
      · by_cases e2 : i < kb
        · exact e2
        · have := kb2 i (by omega) hi; omega
    · refine .inr ⟨e, ?_⟩
      by_cases e2 : i < ka
      · exact .inl e2
      · by_cases e3 : kb ≤ i
        · exact .inr e3
        · have g1 := ka2 i (by omega) hi
          have g2 := kb1 i (by omega)
          omega)
  clear ka1 ka2 kb1 kb2 kd0 kd1 kd2 ke0 ke1 ke2 s1 s2' hRb hRa HB HB2 HI3 Hpq HK HE HV6 hrr
  go_upto_region 13 with (fail)
  go_loopw [13, 14] (fun cv y wr => ∃ i : Nat, i ≤ c ∧ y = .int .i64 i ∧ cv = .int .i64 ((min i kb - min i ka : Nat) : Int) ∧ Hid (Only [] w6 wr)) (fun _ y _ => c - (intOf y).toNat)
  case atStart => exact ⟨0, Nat.zero_le _, rfl, by simp, Lib.hid (Only.refl _ _)⟩
  case round =>
    obtain ⟨i, hi, rfl, rfl, HO⟩ := hrel
    by_cases hlt : i < c
    · obtain ⟨b, rfl, e1, e2⟩ := merge_cells (owns_only HM6.out HO.out) hlt
      have e3' := e2
      rw [show i * 5 + 3 = i * 5 + 2 + 1 by omega] at e3'
      have hcase := Hs.out i hlt
      obtain ⟨hv, hhv⟩ : ∃ hv, x (sel (fl (nat u) (nat v) o m) i) = hv := ⟨_, rfl⟩
      rw [hhv] at e1 hcase
      have hq := fun W => frac_eql hv 1 hh 1 W
      have hc120 : c ≤ 120 := by omega
      have hmn : min i kb - min i ka ≤ 120 := by omega
      have Hc := Lib.hid hcase
      obtain ⟨cc, hcc⟩ : ∃ cc, min i kb - min i ka = cc := ⟨_, rfl⟩
      rw [hcc] at hmn ⊢
      have Hcc := Lib.hid hcc
      clear hcase hhv hcc
      rcases Hc.out with ⟨e, e3, e4⟩ | ⟨e, e3⟩
      · rw [decide_eq_true ⟨e, rfl⟩] at hq
        clear e
        go_wp2_with fail
        exact ⟨⟨i + 1, by omega, by go_num, by have := Hcc.out; rw [show min (i + 1) kb - min (i + 1) ka = cc + 1 by omega]; go_num, HO⟩, by simp [intOf]; omega⟩
      · rw [decide_eq_false (fun h => e h.1)] at hq
        clear e
        go_wp2_with fail
        exact ⟨⟨i + 1, by omega, by go_num, by have := Hcc.out; rw [show min (i + 1) kb - min (i + 1) ka = cc by omega], HO⟩, by simp [intOf]; omega⟩
    · obtain rfl : i = c := by omega
      rw [show min i kb - min i ka = kb - ka by omega]
      have CB2 := Lib.hid (CCb.out)
      have HOw := Lib.hid (HO6.out.trans HO.out)
      clear CCb hfr HM6 Hs
      by_cases hmin : -9223372036854775808 < hh
      · have CA2 := Lib.hid (CCa.out _ HO.out)
        have q7 : (((kb - ka : Nat) : Int) == (Ra : Int) - (Rb : Int)) = true := by simp; omega
        have q8 : ((kb - ka : Nat) : Int) = (Ra : Int) - (Rb : Int) := by omega
        have hd1 : -9223372036854775808 ≤ hh - 1 := by omega
        have hd2 : hh - 1 ≤ 9223372036854775807 := by omega
        clear CCa hx0
        go_wp2_with fail
        refine CA2.out.mono ?_
        rintro e wa ⟨rfl, hOa⟩
        have HOa := Lib.hid (HO.out.trans hOa)
        have CB3 := Lib.hid (CB2.out _ HOa.out)
        clear hOa CA2 CB2
        go_wp2_with fail
        refine CB3.out.mono ?_
        rintro e wb ⟨rfl, hOb⟩
        have HOb := Lib.hid (HO6.out.trans (HOa.out.trans hOb))
        clear hOb CB3
        go_wp2_with fail
        refine (works22_any _).mono ?_
        rintro e wz ⟨rfl, hOz⟩
        have HOz := Lib.hid (HOb.out.trans hOz)
        clear hOz
        go_wp2_with fail
        go_ret
        exact ⟨rfl, HOz.out⟩
      · have ek : ka = 0 := hx0 (by omega)
        have q7 : (((kb - ka : Nat) : Int) == (n2 : Int) - (Rb : Int)) = true := by simp; omega
        have q8 : ((kb - ka : Nat) : Int) = (n2 : Int) - (Rb : Int) := by omega
        have CB3 := Lib.hid (CB2.out _ HO.out)
        clear CCa hx0 CB2
        go_wp2_with fail
        refine CB3.out.mono ?_
        rintro e wb ⟨rfl, hOb⟩
        have HOb := Lib.hid (HO6.out.trans (HO.out.trans hOb))
        clear hOb CB3
        go_wp2_with fail
        refine (works22_any _).mono ?_
        rintro e wz ⟨rfl, hOz⟩
        have HOz := Lib.hid (HOb.out.trans hOz)
        clear hOz
        go_wp2_with fail
        go_ret
        exact ⟨rfl, HOz.out⟩

end Go.Proofs.Ytipgbbhgmoehfaa
