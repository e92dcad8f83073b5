import Derived.Test.YtipgbbhgmoehfaaDoorYRD
/-
  linkage: unite.
-/
namespace Go.Proofs.YtipgbbhgmoehfaaDoor
open Go.RowKit Go.Shelf
attribute [local go_sem] Oper.semAt_some
set_option linter.unusedSimpArgs false
set_option linter.unusedVariables false
set_option linter.unusedSectionVars false

/-- The values when the clusters before k have been mixed. -/
def bfill (S : Nat → Nat) (Bt : Nat → Nat → Int) (a b k x y : Nat) : Int :=
  if x = a ∧ y < k ∧ S y ≠ 0 ∧ y ≠ a ∧ y ≠ b then min (Bt a y) (Bt b y) else if y = a ∧ x < k ∧ S x ≠ 0 ∧ x ≠ a ∧ x ≠ b then min (Bt a x) (Bt b x) else Bt x y
theorem bfill_start (S : Nat → Nat) (Bt : Nat → Nat → Int) (a b x y : Nat) : bfill S Bt a b 0 x y = Bt x y := by
  unfold bfill
  rw [if_neg (by omega), if_neg (by omega)]
theorem bfill_skip {S : Nat → Nat} {Bt : Nat → Nat → Int} {a b k : Nat} (h : S k = 0 ∨ k = a ∨ k = b) (x y : Nat) : bfill S Bt a b k x y = bfill S Bt a b (k + 1) x y := by
  have e : ∀ y, (y < k ∧ S y ≠ 0 ∧ y ≠ a ∧ y ≠ b) ↔ (y < k + 1 ∧ S y ≠ 0 ∧ y ≠ a ∧ y ≠ b) := fun y => by
    by_cases h2 : y = k
    · subst h2; constructor <;> intro h3 <;> omega
    · constructor <;> intro h3 <;> exact ⟨by omega, h3.2⟩
  unfold bfill
  simp only [e]
theorem bfill_next {S : Nat → Nat} {Bt : Nat → Nat → Int} {a b k n : Nat} (ha : a < n) (hk : k < n) (h1 : S k ≠ 0) (h2 : k ≠ a) (h3 : k ≠ b) {t : Int} (ht : min (Bt a k) (Bt b k) = t) {j : Nat} (hj : j < n * n) :
    (if j = k * n + a then t else if j = a * n + k then t else matF n (bfill S Bt a b k) j) = matF n (bfill S Bt a b (k + 1)) j := by
  obtain ⟨s1, s2, s3⟩ := mat_split hj
  obtain ⟨x, hx⟩ : ∃ x, j / n = x := ⟨_, rfl⟩
  obtain ⟨y, hy⟩ : ∃ y, j % n = y := ⟨_, rfl⟩
  rw [hx] at s1 s3
  rw [hy] at s2 s3
  subst s3
  rw [matF_at s2, matF_at s2]
  by_cases e1 : x * n + y = k * n + a
  · obtain ⟨rfl, rfl⟩ := mat_inj s2 ha e1
    rw [if_pos e1]
    unfold bfill
    rw [if_neg (fun h => h2 h.1), if_pos ⟨rfl, by omega, h1, h2, h3⟩, ht]
  · rw [if_neg e1]
    by_cases e2 : x * n + y = a * n + k
    · obtain ⟨rfl, rfl⟩ := mat_inj s2 hk e2
      rw [if_pos e2]
      unfold bfill
      rw [if_pos ⟨rfl, by omega, h1, h2, h3⟩, ht]
    · rw [if_neg e2]
      have n1 : ¬ (x = k ∧ y = a) := fun h => e1 (by rw [h.1, h.2])
      have n2 : ¬ (x = a ∧ y = k) := fun h => e2 (by rw [h.1, h.2])
      have f1 : (x = a ∧ y < k ∧ S y ≠ 0 ∧ y ≠ a ∧ y ≠ b) ↔ (x = a ∧ y < k + 1 ∧ S y ≠ 0 ∧ y ≠ a ∧ y ≠ b) := by
        constructor
        · intro h; exact ⟨h.1, by omega, h.2.2⟩
        · intro h; exact ⟨h.1, by have := h.2.1; have : y ≠ k := fun e => n2 ⟨h.1, e⟩; omega, h.2.2⟩
      have f2 : (y = a ∧ x < k ∧ S x ≠ 0 ∧ x ≠ a ∧ x ≠ b) ↔ (y = a ∧ x < k + 1 ∧ S x ≠ 0 ∧ x ≠ a ∧ x ≠ b) := by
        constructor
        · intro h; exact ⟨h.1, by omega, h.2.2⟩
        · intro h; exact ⟨h.1, by have := h.2.1; have : x ≠ k := fun e => n1 ⟨e, h.1⟩; omega, h.2.2⟩
      unfold bfill
      simp only [f1, f2]
def sunite (S : Nat → Nat) (a b : Nat) : Nat → Nat := fun i => if i = b then 0 else if i = a then S a + S b else S i
theorem clv_other {n : Nat} {S S' : Nat → Nat} {BB cp i : Nat} (h : i < 3 ∨ 131 ≤ i ∨ S (i - 3) = S' (i - 3)) : clv n S BB cp i = clv n S' BB cp i := by
  unfold clv
  by_cases e0 : i = 0
  · rw [if_pos e0, if_pos e0]
  · rw [if_neg e0, if_neg e0]
    by_cases e1 : i = 1
    · rw [if_pos e1, if_pos e1]
    · rw [if_neg e1, if_neg e1]
      by_cases e2 : i = 2
      · rw [if_pos e2, if_pos e2]
      · rw [if_neg e2, if_neg e2]
        by_cases e3 : i < 131
        · rw [if_pos e3, if_pos e3]
          rcases h with h | h | h
          · omega
          · omega
          · rw [h]
        · rw [if_neg e3, if_neg e3]
theorem clv_size {n : Nat} {S : Nat → Nat} {BB cp i : Nat} (h : i < 128) : clv n S BB cp (3 + i) = .int .i64 (S i : Nat) := by
  unfold clv
  rw [if_neg (by omega), if_neg (by omega), if_neg (by omega), if_pos (by omega), Nat.add_sub_cancel_left]
theorem Cls.size {W : World} {CB BB n cp : Nat} {S : Nat → Nat} {Bt : Nat → Nat → Int} (h : Cls W CB BB n cp S Bt) (hne : BB ≠ CB) {i : Nat} (hi : i < 128) (s : Nat) : Cls (W.setCell ⟨CB, 3 + i, none⟩ (.int .i64 (s : Nat))) CB BB n cp (fun j => if j = i then s else S j) Bt := by
  refine ⟨(h.head.set (3 + i) (.int .i64 (s : Nat))).congr fun j hj => ?_, h.row.other hne _⟩
  by_cases e : j = 3 + i
  · rw [if_pos e, e, clv_size hi, if_pos rfl]
  · rw [if_neg e]
    refine clv_other ?_
    by_cases e2 : j < 3
    · exact .inl e2
    · exact .inr (.inr (by rw [if_neg (by omega)]))

theorem five_set {W W5 : World} {R : Nat} {t : TypeId} {a0 a1 a2 a3 a4 v0 v1 v2 v3 v4 : Value} (k : W.heap[R]? = some (.cells #[a0, a1, a2, a3, a4] t (0, 0)))
    (e : ((((W.setCell ⟨R, 0, none⟩ v0).setCell ⟨R, 1, none⟩ v1).setCell ⟨R, 2, none⟩ v2).setCell ⟨R, 3, none⟩ v3).setCell ⟨R, 4, none⟩ v4 = W5) :
    W5.heap[R]? = some (.cells #[v0, v1, v2, v3, v4] t (0, 0)) ∧ Only [R] W W5 := by
  subst e
  refine ⟨?_, ?_⟩
  · have h := heap_setCell_same _ _ 4 _ t v4 (heap_setCell_same _ _ 3 _ t v3 (heap_setCell_same _ _ 2 _ t v2 (heap_setCell_same _ _ 1 _ t v1 (heap_setCell_same W _ 0 _ t v0 k))))
    exact h
  · exact (((((Only.refl [R] W).setCell (g := R) (by simp) _).setCell (g := R) (by simp) _).setCell (g := R) (by simp) _).setCell (g := R) (by simp) _).setCell (g := R) (by simp) _
section
variable {W : World} {CB BB n cp : Nat} {S : Nat → Nat} {Bt : Nat → Nat → Int} (h : Cls W CB BB n cp S Bt)
include h
set_option maxRecDepth 100000 in
set_option maxHeartbeats 8000000 in
theorem lunite_any (hn : n ≤ 128) (hne : BB ≠ CB) (hS : ∀ i, S i ≤ 128) (a b z : Nat) (ha : a < n) (hb : b < n) (hab : a ≠ b) (hz : Bt a b = (z : Int)) (hz2 : z ≤ 1099511627776) :
    Calls Tryd.prog 19 #[.pointer (some ⟨CB, 0, none⟩), .int .i64 a, .int .i64 b] W fun e w' =>
      e = .returned (.agg #[.int .i64 a, .int .i64 b, .int .i64 z, .int .i64 1, .int .i64 ((S a + S b : Nat) : Int)]) ∧ Cls w' CB BB n cp (sunite S a b) (bfill S Bt a b n) ∧ Only [CB, BB] W w' := by
  have CD := Lib.hid (fun W' (hO : Only [] W W') => distance_any (h.only hO (by simp) (by simp)) hn a b ha hb)
  rw [hz] at CD
  have CR := Lib.hid (fun W' => Reduce_any z (by omega) W')
  have HH := Lib.hid h
  have hCl := h.head.ltb
  have hBl := h.row.lt
  clear hz h
  go_enter Tryd.func19, Tryd.ntmps19
  go_wp2_with fail
  refine (CD.out _ ((Only.refl [] W).alloc _)).mono ?_
  rintro e w2 ⟨rfl, hO2⟩
  obtain ⟨w1, hw1⟩ : ∃ w1, W.alloc (.cells #[.int .i64 0, .int .i64 0, .int .i64 0, .int .i64 0, .int .i64 0] 46) = w1 := ⟨_, rfl⟩
  rw [hw1] at hO2
  have k6 : w1.heap[W.heap.size]? = some (.cells #[.int .i64 0, .int .i64 0, .int .i64 0, .int .i64 0, .int .i64 0] 46 (0, 0)) := hw1 ▸ heap_alloc_new W _
  have hO1 : Only [] W w1 := hw1 ▸ (Only.refl [] W).alloc _
  have k6' := (hO2.block _ (heap_lt k6) (by simp)).trans k6
  obtain ⟨R6, hR6⟩ : ∃ R6, W.heap.size = R6 := ⟨_, rfl⟩
  have HR6 := Lib.hid hR6
  rw [hR6] at k6' hCl hBl ⊢
  have HK6 := Lib.hid k6'
  have HO2 := Lib.hid (hO1.trans hO2)
  clear CD hw1 hO2 k6 hO1 k6' hR6
  go_upto_region 2 with (fail)
  obtain ⟨w3, hw3⟩ : ∃ w3, w2.alloc (.cells #[.int .i64 z, .int .i64 1] 44) = w3 := ⟨_, rfl⟩
  obtain ⟨k7, hO3, x0, x1, _, _, _⟩ := two_new hw3
  rw [hw3]
  have HO3 := Lib.hid (HO2.out.trans hO3)
  have HK3 := Lib.hid ((hO3.block _ (heap_lt HK6.out) (by simp)).trans HK6.out)
  obtain ⟨R7, hR7⟩ : ∃ R7, w2.heap.size = R7 := ⟨_, rfl⟩
  rw [hR7] at x0 x1 ⊢
  clear hw3 k7 hO3 hR7 HO2 HK6
  go_wp2_with fail
  refine (CR.out _).mono ?_
  rintro e w4 ⟨rfl, hO4⟩
  have HO4 := Lib.hid (HO3.out.trans hO4)
  have HK4 := Lib.hid ((hO4.block _ (heap_lt HK3.out) (by simp)).trans HK3.out)
  clear hO4 x0 x1 HO3 HK3 CR
  go_upto_region 3 with (fail)
  obtain ⟨w5, hw5⟩ : ∃ w5, w4.alloc (.cells #[.int .i64 z, .int .i64 1] 44) = w5 := ⟨_, rfl⟩
  obtain ⟨k8, hO5, _, _, _, _, _⟩ := two_new hw5
  rw [hw5]
  have HO5 := Lib.hid (HO4.out.trans hO5)
  have HK5 := Lib.hid ((hO5.block _ (heap_lt HK4.out) (by simp)).trans HK4.out)
  obtain ⟨R8, hR8⟩ : ∃ R8, w4.heap.size = R8 := ⟨_, rfl⟩
  have hR84 := HO4.out.size
  have hR6l := heap_lt HK4.out
  have HRR := Lib.hid (show W.heap.size ≤ R8 ∧ R6 ≠ R8 ∧ CB ≠ R8 ∧ BB ≠ R8 from by have := HR6.out; omega)
  rw [hR8] at k8 ⊢
  have HK8 := Lib.hid k8
  have HC5 := Lib.hid (show Cls w5 CB BB n cp S (bfill S Bt a b 0) from by
    have hc := HH.out.only HO5.out (by simp) (by simp)
    exact ⟨hc.head, hc.row.congr fun i _ => by unfold matF; rw [bfill_start]⟩)
  obtain ⟨nn, hnn⟩ : ∃ nn, n * n = nn := ⟨_, rfl⟩
  have hnb : nn ≤ 16384 := by
    have := Nat.mul_le_mul hn hn
    omega
  obtain ⟨ia, hia⟩ : ∃ ia, a * n = ia := ⟨_, rfl⟩
  obtain ⟨ib, hib⟩ : ∃ ib, b * n = ib := ⟨_, rfl⟩
  have hm1 : (a : Int) * (n : Int) = (ia : Int) := by rw [← hia]; simp
  have hm2 : (b : Int) * (n : Int) = (ib : Int) := by rw [← hib]; simp
  have f0 := HC5.out.c0
  have CM := Lib.hid (fun x y W' => mixer1_any x y W')
  have HN := Lib.hid (And.intro hnn (And.intro hia hib))
  have hneI : ¬ CB = BB := fun e => hne e.symm
  clear hw5 hO5 k8 hR8 hR84 hR6l HO4 HK4 HH hnn hia hib
  go_wp2_with fail
  clear f0
  go_loopw [28] (fun y wr => ∃ k : Nat, k ≤ n ∧ y = .int .i64 k ∧ Hid (Cls wr CB BB n cp S (bfill S Bt a b k)) ∧ Hid (Only [BB] w5 wr)) (fun y _ => n - (intOf y).toNat)
  case atStart => exact ⟨0, Nat.zero_le _, rfl, HC5, Lib.hid (Only.refl _ _)⟩
  case round =>
    clear HC5
    obtain ⟨k, hk, rfl, HC, HO⟩ := hrel
    by_cases hlt : k < n
    · skip
      --[
      have fk := HC.out.cS (show k < 128 by omega)
      have qa : (k : Int) < 128 := by omega
      have qi : ((k : Int)).toNat = k := by omega
      have hSk := hS k
      obtain ⟨sk, hsk⟩ : ∃ sk, S k = sk := ⟨_, rfl⟩
      rw [hsk] at fk hSk
      have Hsk := Lib.hid hsk
      clear hsk
      by_cases hz : sk = 0
      · have q1 : ((sk : Int) == 0) = true := by simp [hz]
        have HZ := Lib.hid hz
        clear hz
        go_wp2_with fail
        exact ⟨⟨k + 1, by omega, by go_num, Lib.hid ⟨HC.out.head, HC.out.row.congr fun i _ => by unfold matF; exact bfill_skip (.inl (by rw [Hsk.out]; exact HZ.out)) _ _⟩, HO⟩, by simp [intOf]; omega⟩
      · have q1 : ((sk : Int) == 0) = false := by simp; omega
        by_cases hka : k = a
        · have q2 : ((k : Int) == (a : Int)) = true := by simp [hka]
          have HKA := Lib.hid hka
          clear hka hz
          go_wp2_with fail
          exact ⟨⟨k + 1, by omega, by go_num, Lib.hid ⟨HC.out.head, HC.out.row.congr fun i _ => by unfold matF; exact bfill_skip (.inr (.inl HKA.out)) _ _⟩, HO⟩, by simp [intOf]; omega⟩
        · have q2 : ((k : Int) == (a : Int)) = false := by simp; omega
          by_cases hkb : k = b
          · have q3 : ((k : Int) == (b : Int)) = true := by simp [hkb]
            have HKB := Lib.hid hkb
            clear hkb hka hz
            go_wp2_with fail
            exact ⟨⟨k + 1, by omega, by go_num, Lib.hid ⟨HC.out.head, HC.out.row.congr fun i _ => by unfold matF; exact bfill_skip (.inr (.inr HKB.out)) _ _⟩, HO⟩, by simp [intOf]; omega⟩
          · have q3 : ((k : Int) == (b : Int)) = false := by simp; omega
            have f0 := HC.out.c0
            have f2 := HC.out.c2
            have f3 := HC.out.c131
            have g1 := HC.out.cB ha hlt
            have g2 := HC.out.cB hb hlt
            have hl1 := mat_lt ha hlt
            have hl2 := mat_lt hb hlt
            have hl3 := mat_lt hlt ha
            rw [show bfill S Bt a b k a k = Bt a k by unfold bfill; rw [if_neg (by omega), if_neg (by omega)]] at g1
            rw [show bfill S Bt a b k b k = Bt b k by unfold bfill; rw [if_neg (by omega), if_neg (by omega)]] at g2
            rw [HN.out.1] at f3 hl1 hl2 hl3
            rw [HN.out.2.1] at g1 hl1
            rw [HN.out.2.2] at g2 hl2
            obtain ⟨ik, hik⟩ : ∃ ik, k * n = ik := ⟨_, rfl⟩
            have hm3 : (k : Int) * (n : Int) = (ik : Int) := by rw [← hik]; simp
            rw [hik] at hl3
            obtain ⟨v1, hv1⟩ : ∃ v1, Bt a k = v1 := ⟨_, rfl⟩
            obtain ⟨v2, hv2⟩ : ∃ v2, Bt b k = v2 := ⟨_, rfl⟩
            rw [hv1] at g1
            rw [hv2] at g2
            have r1 : ((ia : Int) + (k : Int)).toNat = ia + k := by omega
            have r2 : (ia : Int) + (k : Int) < (nn : Int) := by omega
            have r3 : ((ib : Int) + (k : Int)).toNat = ib + k := by omega
            have r4 : (ib : Int) + (k : Int) < (nn : Int) := by omega
            have r5 : ((ik : Int) + (a : Int)).toNat = ik + a := by omega
            have r6 : (ik : Int) + (a : Int) < (nn : Int) := by omega
            have HV := Lib.hid (And.intro hv1 (And.intro hv2 hik))
            clear hv1 hv2 hik
            go_wp2_with fail
            go_big_quiet ((go_at_call 29; exact Calls.quiet_of_same (CM.out _ _ _)))
            go_wp2_with fail
            obtain ⟨W1, hW1⟩ : ∃ W1, wr.drewN nq = W1 := ⟨_, rfl⟩
            have hO1 : Only [] wr W1 := hW1 ▸ (Only.refl [] wr).drewN nq
            obtain ⟨tt, htt⟩ : ∃ tt, min v1 v2 = tt := ⟨_, rfl⟩
            rw [hW1, htt]
            have hC1 := HC.out.only hO1 (by simp) (by simp)
            have hOw : Only [BB] w5 W1 := HO.out.trans (hO1.mono (by simp))
            have f0 := hC1.c0
            have f3 := hC1.c131
            have hr := hC1.row
            have z1 := hr.frozen (ia + k)
            have z2 := hr.frozen (ik + a)
            have s1 := hr.set (ia + k) tt
            have s2 := hr.set (ik + a) tt
            rw [HN.out.1] at f3 hr s1 s2
            have c1 := hr.cell hl1
            have c2 := hr.cell hl3
            have y1 := s1.frozen (ik + a)
            have y2 := s2.frozen (ia + k)
            have hd1 : ¬ ik + a = ia + k := fun e => by
              rw [← HN.out.2.1, ← HV.out.2.2] at e
              exact hka (mat_inj ha hlt e).1
            have hd2 : ¬ ia + k = ik + a := fun e => hd1 e.symm
            have d2 := s1.cell hl3
            have d1 := s2.cell hl1
            rw [if_neg hd1] at d2
            rw [if_neg hd2] at d1
            have hval : min (Bt a k) (Bt b k) = tt := by rw [HV.out.1, HV.out.2.1, htt]
            have HE1 := Lib.hid (show Cls ((W1.setCell ⟨BB, ia + k, none⟩ (.int .i64 tt)).setCell ⟨BB, ik + a, none⟩ (.int .i64 tt)) CB BB n cp S (bfill S Bt a b (k + 1)) from
              ⟨hC1.head.kept ((heap_setCell_other _ ⟨BB, ik + a, none⟩ CB _ hneI).trans (heap_setCell_other _ ⟨BB, ia + k, none⟩ CB _ hneI)), by
                rw [HN.out.1]
                refine (s1.set (ik + a) tt).congr fun j hj => ?_
                rw [← HN.out.2.1, ← HV.out.2.2]
                exact bfill_next ha hlt (by rw [Hsk.out]; exact hz) hka hkb hval (by rw [HN.out.1]; exact hj)⟩)
            have HE2 := Lib.hid (show Cls ((W1.setCell ⟨BB, ik + a, none⟩ (.int .i64 tt)).setCell ⟨BB, ia + k, none⟩ (.int .i64 tt)) CB BB n cp S (bfill S Bt a b (k + 1)) from
              ⟨hC1.head.kept ((heap_setCell_other _ ⟨BB, ia + k, none⟩ CB _ hneI).trans (heap_setCell_other _ ⟨BB, ik + a, none⟩ CB _ hneI)), by
                rw [HN.out.1]
                refine (s2.set (ia + k) tt).congr fun j hj => ?_
                rw [← bfill_next ha hlt (show S k ≠ 0 by rw [Hsk.out]; exact hz) hka hkb hval (show j < n * n by rw [HN.out.1]; exact hj), HN.out.2.1, HV.out.2.2]
                by_cases e1 : j = ia + k
                · rw [if_pos e1, if_neg (by omega), if_pos e1]
                · rw [if_neg e1]
                  by_cases e2 : j = ik + a
                  · rw [if_pos e2, if_pos e2]
                  · rw [if_neg e2, if_neg e2, if_neg e1]⟩)
            have HX1 := Lib.hid (show Only [BB] w5 ((W1.setCell ⟨BB, ia + k, none⟩ (.int .i64 tt)).setCell ⟨BB, ik + a, none⟩ (.int .i64 tt)) from (hOw.setCell (g := BB) (i := ia + k) (by simp) _).setCell (g := BB) (i := ik + a) (by simp) _)
            have HX2 := Lib.hid (show Only [BB] w5 ((W1.setCell ⟨BB, ik + a, none⟩ (.int .i64 tt)).setCell ⟨BB, ia + k, none⟩ (.int .i64 tt)) from (hOw.setCell (g := BB) (i := ik + a) (by simp) _).setCell (g := BB) (i := ia + k) (by simp) _)
            obtain ⟨o1, ho1⟩ : ∃ o1, matF n (bfill S Bt a b k) (ia + k) = o1 := ⟨_, rfl⟩
            obtain ⟨o2, ho2⟩ : ∃ o2, matF n (bfill S Bt a b k) (ik + a) = o2 := ⟨_, rfl⟩
            rw [ho1] at c1 d1
            rw [ho2] at c2 d2
            clear hO1 hC1 hOw hr s1 s2 hval ho1 ho2 htt hW1 fk f2 g1 g2 HC HO
            go_region
            all_goals
              go_wp2_with fail
              first
              | exact ⟨⟨k + 1, by omega, by go_num, HE1, HX1⟩, by simp [intOf]; omega⟩
              | exact ⟨⟨k + 1, by omega, by go_num, HE2, HX2⟩, by simp [intOf]; omega⟩
              | exact ⟨⟨k + 1, by omega, by go_num, Lib.hid (HE1.out.only ((Only.refl [] _).drewN 1) (by simp) (by simp)), Lib.hid (HX1.out.drewN 1)⟩, by simp [intOf]; omega⟩
              | exact ⟨⟨k + 1, by omega, by go_num, Lib.hid (HE2.out.only ((Only.refl [] _).drewN 1) (by simp) (by simp)), Lib.hid (HX2.out.drewN 1)⟩, by simp [intOf]; omega⟩
      --]
    · obtain rfl : k = n := by omega
      have ha1 : a < 128 := by omega
      have hb1 : b < 128 := by omega
      have fa := HC.out.cS ha1
      have fb := HC.out.cS hb1
      have za := HC.out.head.fz (3 + a)
      have hsa := hS a
      have hsb := hS b
      obtain ⟨sa, hsa'⟩ : ∃ sa, S a = sa := ⟨_, rfl⟩
      obtain ⟨sb, hsb'⟩ : ∃ sb, S b = sb := ⟨_, rfl⟩
      have HC2 := Lib.hid (HC.out.size hne ha1 (sa + sb))
      have hO2 : Only [CB, BB] w5 (wr.setCell ⟨CB, 3 + a, none⟩ (.int .i64 ((sa + sb : Nat) : Int))) := (HO.out.mono (by simp)).setCell (g := CB) (i := 3 + a) (by simp) _
      have HO2 := Lib.hid hO2
      rw [hsa'] at fa hsa
      rw [hsb'] at fb hsb
      have HSS := Lib.hid (And.intro hsa' hsb')
      have qa : (a : Int) < 128 := by omega
      have qb : (b : Int) < 128 := by omega
      have qia : ((a : Int)).toNat = a := by omega
      have qib : ((b : Int)).toNat = b := by omega
      have hsum : ((sa + sb : Nat) : Int) = (sa : Int) + (sb : Int) := by omega
      rw [hsum] at HC2 HO2
      obtain ⟨ss, hss⟩ : ∃ ss, sa + sb = ss := ⟨_, rfl⟩
      have hsI : (sa : Int) + (sb : Int) = (ss : Int) := by omega
      rw [hsI] at HC2 HO2
      have Hss := Lib.hid hss
      have hssb : ss ≤ 256 := by omega
      clear hsa' hsb' hO2 HC HO hsum hss
      go_upto_region 10 with (fail)
      go_region
      go_upto_region 11 with (fail)
      obtain ⟨w6, hw6⟩ : ∃ w6, (wr.setCell ⟨CB, 3 + a, none⟩ (.int .i64 (ss : Int))).drew = w6 := ⟨_, rfl⟩
      rw [hw6]
      have hC6 : Cls w6 CB BB k cp (fun j => if j = a then sa + sb else S j) (bfill S Bt a b k) := hw6 ▸ HC2.out.only ((Only.refl [] _).drewN 1) (by simp) (by simp)
      have HO6 := Lib.hid (show Only [CB, BB] w5 w6 from hw6 ▸ HO2.out.drewN 1)
      have HC7 := Lib.hid (hC6.size hne hb1 0)
      have fb6 := hC6.cS hb1
      have zb := hC6.head.fz (3 + b)
      rw [if_neg (fun e => hab e.symm), HSS.out.2] at fb6
      have HO7 := Lib.hid (show Only [CB, BB] w5 (w6.setCell ⟨CB, 3 + b, none⟩ (.int .i64 ((0 : Nat) : Int))) from HO6.out.setCell (g := CB) (i := 3 + b) (by simp) _)
      clear hw6 hC6 fa fb za HC2 HO2 HO6
      go_upto_region 12 with (fail)
      obtain ⟨w7, hw7⟩ : ∃ w7, w6.setCell ⟨CB, 3 + b, none⟩ (.int .i64 0) = w7 := ⟨_, rfl⟩
      rw [hw7]
      have hC7 : Cls w7 CB BB k cp (sunite S a b) (bfill S Bt a b k) := by
        have h0 : Cls w7 CB BB k cp (fun j => if j = b then 0 else (fun j => if j = a then sa + sb else S j) j) (bfill S Bt a b k) := hw7 ▸ HC7.out
        refine ⟨h0.head.congr fun j hj => clv_other (.inr (.inr ?_)), h0.row⟩
        unfold sunite
        rw [HSS.out.1, HSS.out.2]
      have hO7 : Only [CB, BB] w5 w7 := hw7 ▸ HO7.out
      have hR := HRR.out
      have hR6e := HR6.out
      have k6 := (hO7.block _ (heap_lt HK5.out) (by simp; omega)).trans HK5.out
      have k8 := (hO7.block _ (heap_lt HK8.out) (by simp; omega)).trans HK8.out
      have g0 := cell_of_heap (i := 0) k8 rfl
      have g1 := cell_of_heap (i := 1) k8 rfl
      have d0 := cell_of_heap (i := 0) k6 rfl
      have d1 := cell_of_heap (i := 1) k6 rfl
      have d2 := cell_of_heap (i := 2) k6 rfl
      have d3 := cell_of_heap (i := 3) k6 rfl
      have d4 := cell_of_heap (i := 4) k6 rfl
      have y0 := frozen_of_heap (i := 0) k6
      have y1 := frozen_of_heap (i := 1) k6
      have y2 := frozen_of_heap (i := 2) k6
      have y3 := frozen_of_heap (i := 3) k6
      have y4 := frozen_of_heap (i := 4) k6
      simp only [List.getElem_toArray, List.getElem_cons_zero, List.getElem_cons_succ] at g0 g1 d0 d1 d2 d3 d4
      have fa := hC7.cS ha1
      rw [show sunite S a b a = ss by unfold sunite; rw [if_neg hab, if_pos rfl, HSS.out.1, HSS.out.2, Hss.out]] at fa
      have HC8 := Lib.hid hC7
      have HO8 := Lib.hid hO7
      have HK := Lib.hid k6
      have hne6 : ¬ CB = R6 := by omega
      clear hw7 hC7 hO7 hR hR6e k6 k8 HC7 HO7 fb6 zb
      go_region
      go_wp2_with fail
      obtain ⟨w9, hw9⟩ : ∃ w9, ((((w7.setCell ⟨R6, 0, none⟩ (.int .i64 a)).setCell ⟨R6, 1, none⟩ (.int .i64 b)).setCell ⟨R6, 2, none⟩ (.int .i64 z)).setCell ⟨R6, 3, none⟩ (.int .i64 1)).setCell ⟨R6, 4, none⟩ (.int .i64 ss) = w9 := ⟨_, rfl⟩
      obtain ⟨k9, hO9⟩ := five_set HK.out hw9
      rw [hw9]
      have hO10 : Only [R6] w7 w9.drew := hO9.drewN 1
      have k10 : w9.drew.heap[R6]? = some (.cells #[.int .i64 a, .int .i64 b, .int .i64 z, .int .i64 1, .int .i64 ss] 46 (0, 0)) := k9
      obtain ⟨wz, hwz⟩ : ∃ wz, w9.drew = wz := ⟨_, rfl⟩
      rw [hwz] at hO10 k10 ⊢
      have e0 := cell_of_heap (i := 0) k10 rfl
      have e1 := cell_of_heap (i := 1) k10 rfl
      have e2 := cell_of_heap (i := 2) k10 rfl
      have e3 := cell_of_heap (i := 3) k10 rfl
      have e4 := cell_of_heap (i := 4) k10 rfl
      simp only [List.getElem_toArray, List.getElem_cons_zero, List.getElem_cons_succ] at e0 e1 e2 e3 e4
      have hOb : Only [CB, BB] W w7 := (HO5.out.mono (by simp)).trans HO8.out
      have HOz := Lib.hid (hOb.to hO10 fun j hj hl => by simp at hj; have := HR6.out; omega)
      clear hOb
      have HCz := Lib.hid (HC8.out.only hO10 (by simpa using hne6) (by simp; omega))
      clear d0 d1 d2 d3 d4 y0 y1 y2 y3 y4 g0 g1 fa k9 hO9 k10 hO10 hw9 hwz
      refine bodyPost_ret (v := .agg #[.int .i64 a, .int .i64 b, .int .i64 z, .int .i64 1, .int .i64 ss]) (by simp [results, Tryd.results19, go_sem, e0, e1, e2, e3, e4]) rfl ⟨by rw [HSS.out.1, HSS.out.2, Hss.out], HCz.out, HOz.out⟩
end

end Go.Proofs.YtipgbbhgmoehfaaDoor
