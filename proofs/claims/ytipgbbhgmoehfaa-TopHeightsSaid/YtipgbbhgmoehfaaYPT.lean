import Derived.Test.YtipgbbhgmoehfaaYG
import Derived.Test.YtipgbbhgmoehfaaYF
import Derived.Test.YtipgbbhgmoehfaaYTJ
/-
  partition: Check, check, Refines, Join at canonical labels.
-/
namespace Go.Proofs.Ytipgbbhgmoehfaa
open Go.RowKit
attribute [local go_sem] Oper.semAt_some
set_option linter.unusedSimpArgs false
set_option linter.unusedVariables false
set_option linter.unusedSectionVars false

set_option maxRecDepth 100000 in
set_option maxHeartbeats 2000000 in
theorem pCheck_any (g n c : Nat) (f : Nat → Nat) (w : World) (h : Row w g n f) (hl : Labs n f) (hn : n ≤ 65536) : Calls Try.prog 77 #[.slice (some ⟨g, 0, none⟩) n c] w fun e w' => e = .returned (.int .i64 0) ∧ Only [] w w' := by
  have HR := Lib.hid h
  have HL := Lib.hid hl
  clear h hl
  go_enter Try.func77, Try.ntmps77
  go_wp2_with fail
  go_loopw [7] (fun y wr => ∃ i : Nat, i ≤ n ∧ y = .int .i64 i ∧ Hid (Only [] w wr)) (fun y _ => n - (intOf y).toNat)
  case atStart => exact ⟨0, Nat.zero_le _, rfl, Lib.hid (Only.refl _ _)⟩
  case round =>
    obtain ⟨i, hi, rfl, hO⟩ := hrel
    by_cases hlt : i < n
    · have hr := HR.out.only hO.out (by simp)
      have c1 := hr.cell hlt
      have l1 := HL.out i hlt
      have l2 : f i < n := by omega
      have c2 := hr.cell l2
      rw [l1.2] at c2
      have l3 := l1.1
      obtain ⟨y, hy⟩ : ∃ y, f i = y := ⟨_, rfl⟩
      rw [hy] at c1 c2 l2 l3
      have q1 : ¬ ((y : Int) < 0) := by omega
      have q2 : ¬ ((i : Int) < (y : Int)) := by omega
      have q3 : ((y : Int) != (y : Int)) = false := by simp
      clear hr l1 hy
      go_wp2_with fail
      exact ⟨⟨i + 1, by omega, by go_num, hO⟩, by simp [intOf]; omega⟩
    · obtain rfl : i = n := by omega
      go_wp2_with fail
      go_ret
      exact ⟨rfl, hO.out⟩

set_option maxRecDepth 100000 in
set_option maxHeartbeats 2000000 in
theorem pcheck_any (g1 g2 n c1 c2 : Nat) (f1 f2 : Nat → Nat) (w : World) (h1 : Row w g1 n f1) (h2 : Row w g2 n f2) (hl1 : Labs n f1) (hl2 : Labs n f2) (hn : n ≤ 65536) :
    Calls Try.prog 51 #[.slice (some ⟨g1, 0, none⟩) n c1, .slice (some ⟨g2, 0, none⟩) n c2] w fun e w' => e = .returned (.int .i64 0) ∧ Only [] w w' := by
  have C1 := Lib.hid (fun W (hO : Only [] w W) => pCheck_any g1 n c1 f1 W (h1.only hO (by simp)) hl1 hn)
  have C2 := Lib.hid (fun W (hO : Only [] w W) => pCheck_any g2 n c2 f2 W (h2.only hO (by simp)) hl2 hn)
  have q3 : ((n : Int) != (n : Int)) = false := by simp
  clear h1 h2 hl1 hl2
  have tok : True := trivial
  go_enter Try.func51, Try.ntmps51
  go_wp2_with (first
    | (have _t := tok; go_at_call 77; refine (C1.out _ (Only.refl _ _)).mono ?_; rintro e wA ⟨rfl, hOA⟩; clear tok; have HOA := Lib.hid hOA; clear hOA)
    | (go_at_call 77; refine (C2.out _ HOA.out).mono ?_; rintro e wB ⟨rfl, hOB⟩; have HOB := Lib.hid (HOA.out.trans hOB); clear hOB))
  go_ret
  exact ⟨rfl, HOB.out⟩

set_option maxRecDepth 100000 in
set_option maxHeartbeats 2000000 in
theorem Refines_any (g1 g2 n c1 c2 : Nat) (f1 f2 : Nat → Nat) (w : World) (h1 : Row w g1 n f1) (h2 : Row w g2 n f2) (hl1 : Labs n f1) (hl2 : Labs n f2) (hr : ∀ x, x < n → f2 (f1 x) = f2 x) (hn : n ≤ 65536) :
    Calls Try.prog 21 #[.slice (some ⟨g1, 0, none⟩) n c1, .slice (some ⟨g2, 0, none⟩) n c2] w fun e w' => e = .returned (.tuple #[.bool true, .int .i64 0]) ∧ Only [] w w' := by
  have CC := Lib.hid (pcheck_any g1 g2 n c1 c2 f1 f2 w h1 h2 hl1 hl2 hn)
  have H1 := Lib.hid h1
  have H2 := Lib.hid h2
  have HL := Lib.hid (And.intro hl1 hr)
  clear h1 h2 hl1 hl2 hr
  go_enter Try.func21, Try.ntmps21
  go_wp2_with fail
  refine CC.out.mono ?_
  rintro e wA ⟨rfl, hO⟩
  have HO := Lib.hid hO
  clear hO CC
  go_wp2_with fail
  go_loopw [17] (fun y wr => ∃ i : Nat, i ≤ n ∧ y = .int .i64 i ∧ Hid (Only [] w wr)) (fun y _ => n - (intOf y).toNat)
  case atStart => exact ⟨0, Nat.zero_le _, rfl, HO⟩
  case round =>
    clear HO
    obtain ⟨i, hi, rfl, hO⟩ := hrel
    by_cases hlt : i < n
    · have k1 := (H1.out.only hO.out (by simp)).cell hlt
      have k2 := (H2.out.only hO.out (by simp)).cell hlt
      have l1 := (HL.out.1 i hlt).1
      have l2 : f1 i < n := by omega
      have k3 := (H2.out.only hO.out (by simp)).cell l2
      rw [HL.out.2 i hlt] at k3
      obtain ⟨y, hy⟩ : ∃ y, f1 i = y := ⟨_, rfl⟩
      obtain ⟨z, hz⟩ : ∃ z, f2 i = z := ⟨_, rfl⟩
      rw [hy] at k1 k3 l2
      rw [hz] at k2 k3
      have q3 : ((z : Int) != (z : Int)) = false := by simp
      clear hy hz l1
      go_wp2_with fail
      go_quiet (fail)
      go_wp2_with fail
      exact ⟨⟨i + 1, by omega, by go_num, Lib.hid (hO.out.drewN _)⟩, by simp [intOf]; omega⟩
    · obtain rfl : i = n := by omega
      go_wp2_with fail
      go_ret2
      exact ⟨rfl, hO.out⟩

set_option maxRecDepth 100000 in
set_option maxHeartbeats 2000000 in
/-- The end of a chain. -/
theorem jend_any (B G n c a : Nat) (up rt d : Nat → Nat) (w : World) (hB : w.cell? ⟨B, 0, none⟩ = some (.slice (some ⟨G, 0, none⟩) n c)) (hBG : B ≠ G) (hU : Row w G n up) (hF : Forest n up rt d) (ha : a < n) :
    Calls Try.prog 54 #[.int .i64 a, .pointer (some ⟨B, 0, none⟩)] w fun e w' => e = .returned (.int .i64 (rt a)) ∧ ∃ up', Forest n up' rt d ∧ Row w' G n up' ∧ Only [G] w w' := by
  have HU := Lib.hid hU
  have HFF := Lib.hid hF
  have HB := Lib.hid hB
  clear hU hF hB
  go_enter Try.func54, Try.ntmps54
  go_wp2_with fail
  go_loopg [0] (d a) (fun k v wr => ∃ (b : Nat) (up' : Nat → Nat), v = .int .i64 b ∧ b < n ∧ Hid (d b = k) ∧ Hid (rt b = rt a) ∧ Hid (Forest n up' rt d) ∧ Hid (Row wr G n up') ∧ Hid (Only [G] w wr))
  case atStart => exact ⟨a, up, rfl, ha, Lib.hid rfl, Lib.hid rfl, HFF, HU, Lib.hid (Only.refl _ _)⟩
  case round =>
    obtain ⟨b, up', rfl, hb, hk, hr, hf, hw, ho⟩ := hrel
    clear HU HFF
    have c0 : wr.cell? ⟨B, 0, none⟩ = some (.slice (some ⟨G, 0, none⟩) n c) := cells_keep ho.out HB.out (by simpa using hBG)
    have c1 := hw.out.cell hb
    have b2 := hf.out.lt b hb
    have b3 := hf.out.lt _ b2
    have z1 := hw.out.frozen b
    by_cases he : up' b = b
    · have HE := Lib.hid he
      have q : ((b : Int) != (b : Int)) = false := by simp
      rw [he] at c1
      clear he b2 b3
      go_wp2_with fail
      go_ret
      exact ⟨by rw [← hr.out, hf.out.fix b hb HE.out]; rfl, up', hf.out, hw.out, ho.out⟩
    · have c2 := hw.out.cell b2
      have q : ((up' b : Int) != (b : Int)) = true := by simp; omega
      have hdd : Hid (d (up' (up' b)) < d b) := Lib.hid (by
        have h1 := hf.out.dec b hb he
        by_cases e2 : up' (up' b) = up' b
        · rw [e2]; exact h1
        · exact Nat.lt_trans (hf.out.dec _ b2 e2) h1)
      have HF2 := Lib.hid (hf.out.halve hb he)
      have HR2 := Lib.hid (hw.out.put b (up' (up' b)))
      have HO2 := Lib.hid (ho.out.setCell (g := G) (i := b) (by simp) (.int .i64 (up' (up' b) : Nat)))
      have hru : Hid (rt (up' (up' b)) = rt a) := Lib.hid (by rw [hf.out.ru _ b2, hf.out.ru _ hb, hr.out])
      obtain ⟨p, hp⟩ : ∃ p, up' b = p := ⟨_, rfl⟩
      obtain ⟨t, ht⟩ : ∃ t, up' p = t := ⟨_, rfl⟩
      rw [hp] at c1 c2 b2 b3 q hdd HF2 HR2 HO2 hru
      rw [ht] at c2 b3 hdd HF2 HR2 HO2 hru
      clear hp ht he
      go_wp2_with fail
      go_region
      go_wp2_with fail
      go_roundg (d t)
      case measure => have := hdd.out; have := hk.out; omega
      case rel => exact ⟨t, _, rfl, b3, Lib.hid rfl, hru, HF2, Lib.hid (HR2.out.same rfl), Lib.hid (HO2.out.drewN 1)⟩

theorem Forest.labs {n : Nat} {f : Nat → Nat} (h : Labs n f) : Forest n f f (fun a => if f a = a then 0 else 1) := by
  refine ⟨fun a ha => h.lt ha, fun a ha => h.lt ha, fun a ha => (h a ha).2, fun a ha => (h a ha).2, fun a _ e => e, fun a ha hne => ?_⟩
  show (if f (f a) = f a then 0 else 1) < (if f a = a then 0 else 1)
  rw [if_pos (h a ha).2, if_neg hne]
  exact Nat.zero_lt_one
theorem forest_uni {n a b : Nat} {up lab d : Nat → Nat} (hF : Forest n up lab d) (hL : Labs n lab) (ha : a < n) (hb : b < n) : ∃ d', Forest n (put up (max (lab a) (lab b)) (min (lab a) (lab b))) (uni lab (a, b)) d' := by
  have lx := hL.lt ha
  have ly := hL.lt hb
  have rx := (hL a ha).2
  have ry := (hL b hb).2
  by_cases e : lab a = lab b
  · refine ⟨d, ?_⟩
    rw [uni_same (p := (a, b)) e, ← e, Nat.max_self, Nat.min_self]
    have e2 : put up (lab a) (lab a) = up := by
      funext i
      unfold put
      split
      · rename_i h; rw [h]; exact (hF.rr a ha).symm
      · rfl
    rw [e2]
    exact hF
  · obtain ⟨x, hx⟩ : ∃ x, min (lab a) (lab b) = x := ⟨_, rfl⟩
    obtain ⟨y, hy⟩ : ∃ y, max (lab a) (lab b) = y := ⟨_, rfl⟩
    have hc : (x = lab a ∧ y = lab b) ∨ (x = lab b ∧ y = lab a) := by omega
    have rx' : lab x = x := by rcases hc with h | h <;> rw [h.1] <;> assumption
    have ry' : lab y = y := by rcases hc with h | h <;> rw [h.2] <;> assumption
    refine ⟨fun a => if lab a = y then d a + d x + 1 else d a, ?_⟩
    · rw [hx, hy]
      have h := hF.unite (x := x) (y := y) (by omega) (by omega) rx' ry' (by omega)
      have e2 : uni lab (a, b) = fun c => if lab c = y then x else lab c := by
        funext c
        show mer lab (lab a) (lab b) c = _
        unfold mer
        rw [hx]
        split
        · split <;> omega
        · split <;> omega
      rw [e2]
      exact h

set_option maxRecDepth 100000 in
set_option maxHeartbeats 4000000 in
theorem Join_any (g1 g2 n c1 c2 : Nat) (f1 f2 : Nat → Nat) (w : World) (h1 : Row w g1 n f1) (h2 : Row w g2 n f2) (hl1 : Labs n f1) (hl2 : Labs n f2) (hr : ∀ x, x < n → f2 (f1 x) = f2 x) (hn : n ≤ 65536) :
    Calls Try.prog 23 #[.slice (some ⟨g1, 0, none⟩) n c1, .slice (some ⟨g2, 0, none⟩) n c2] w fun e w' => ∃ g, e = .returned (.tuple #[.slice (some ⟨g, 0, none⟩) n n, .int .i64 0]) ∧ Row w' g n f2 ∧ w.heap.size ≤ g ∧ Only [] w w' := by
  have CC := Lib.hid (pcheck_any g1 g2 n c1 c2 f1 f2 w h1 h2 hl1 hl2 hn)
  have HCl := Lib.hid (fun W (hO : Only [] w W) => Clone_int g1 n c1 f1 W (h1.only hO (by simp)) hn)
  have H2 := Lib.hid h2
  have hl := h2.lt
  have HL := Lib.hid (And.intro hl1 (And.intro hl2 hr))
  have HJ := Lib.hid (fun t (ht : t ≤ n) => jn_all hl1 hl2 hr ht)
  have HE := Lib.hid (fun x (hx : x < n) => jl_end hl1 hl2 hr hx)
  clear h1 h2 hl1 hl2 hr
  go_enter Try.func23, Try.ntmps23
  go_wp2_with fail
  refine CC.out.mono ?_
  rintro e wA ⟨rfl, hO⟩
  have HO := Lib.hid hO
  clear hO CC
  go_wp2_with fail
  refine (HCl.out _ HO.out).mono ?_
  rintro e wB ⟨G, c, rfl, hR, hG, hO⟩
  have HO2 := Lib.hid (HO.out.trans hO)
  have HR := Lib.hid hR
  have hsz := HO.out.size
  have hGl := hR.lt
  clear hO HO hR HCl
  go_upto_region 5 with (fail)
  obtain ⟨wC, hwC⟩ : ∃ wC, wB.alloc (.cells #[.slice (some ⟨G, 0, none⟩) n c] 30) = wC := ⟨_, rfl⟩
  have k0 : wC.heap[wB.heap.size]? = some (.cells #[.slice (some ⟨G, 0, none⟩) n c] 30 (0, 0)) := hwC ▸ heap_alloc_new wB _
  have hOC : Only [] wB wC := hwC ▸ (Only.refl [] wB).alloc _
  have HRC := Lib.hid (HR.out.only hOC (by simp))
  have HO3 := Lib.hid (HO2.out.trans hOC)
  have hsC : wC.heap.size = wB.heap.size + 1 := by rw [← hwC, World.size_alloc]
  rw [hwC]
  obtain ⟨B, hB⟩ : ∃ B, wB.heap.size = B := ⟨_, rfl⟩
  rw [hB] at k0 hGl hsC ⊢
  have hBG : B ≠ G := by omega
  have HB := Lib.hid (cell_of_heap (i := 0) k0 rfl)
  have hwB := HO2.out.size
  clear hwC hOC HO2 k0
  go_wp2_with fail
  go_loopw [26] (fun y wr => ∃ t : Nat, t ≤ n ∧ y = .int .i64 t ∧ Hid (∃ up d, Forest n up (jl f1 f2 t) d ∧ Row wr G n up) ∧ Hid (Only [G] wC wr)) (fun y _ => n - (intOf y).toNat)
  case atStart => exact ⟨0, Nat.zero_le _, rfl, Lib.hid ⟨_, _, Forest.labs HL.out.1, HRC.out⟩, Lib.hid (Only.refl _ _)⟩
  case round =>
    clear HRC HR
    obtain ⟨t, ht, rfl, HF, HO⟩ := hrel
    by_cases hlt : t < n
    · obtain ⟨up, d, hF, hR⟩ := HF.out
      have hW := HO3.out.to HO.out (fun g hg hl => by simp at hg; omega)
      have k2 := (H2.out.only hW (by simp)).cell hlt
      have hf2 := HL.out.2.1.lt hlt
      have HJt := Lib.hid (HJ.out t ht)
      have hBr : wr.cell? ⟨B, 0, none⟩ = some (.slice (some ⟨G, 0, none⟩) n c) := cells_keep HO.out HB.out (by simpa using hBG)
      have HC1 := Lib.hid (jend_any B G n c t up (jl f1 f2 t) d wr hBr hBG hR hF hlt)
      have HC2 := Lib.hid (fun W up2 (hB2 : W.cell? ⟨B, 0, none⟩ = some (.slice (some ⟨G, 0, none⟩) n c)) (hF2 : Forest n up2 (jl f1 f2 t) d) (hR2 : Row W G n up2) => jend_any B G n c (f2 t) up2 (jl f1 f2 t) d W hB2 hBG hR2 hF2 hf2)
      have HN := Lib.hid (fun up2 (hF2 : Forest n up2 (jl f1 f2 t) d) => forest_uni hF2 HJt.out.labs hlt hf2)
      have hx := HJt.out.labs.lt hlt
      have hy := HJt.out.labs.lt hf2
      obtain ⟨z, hz⟩ : ∃ z, f2 t = z := ⟨_, rfl⟩
      rw [hz] at k2 hf2 hy HC2 HN
      obtain ⟨x, hxe⟩ : ∃ x, jl f1 f2 t t = x := ⟨_, rfl⟩
      obtain ⟨y, hye⟩ : ∃ y, jl f1 f2 t z = y := ⟨_, rfl⟩
      rw [hxe] at HC1 HN hx
      rw [hye] at HC2 HN hy
      have HZ := Lib.hid hz
      obtain ⟨mx, hmx⟩ : ∃ mx, max x y = mx := ⟨_, rfl⟩
      obtain ⟨mn, hmn⟩ : ∃ mn, min x y = mn := ⟨_, rfl⟩
      rw [hmx, hmn] at HN
      have qm : max (x : Int) (y : Int) = (mx : Int) := by omega
      have qn : min (x : Int) (y : Int) = (mn : Int) := by omega
      have hmxn : mx < n := by omega
      clear hF hR HF hz hxe hye hmx hmn
      go_wp2_with fail
      refine HC1.out.mono ?_
      rintro e wD ⟨rfl, up1, hF1, hR1, hO1⟩
      have hB1 : wD.cell? ⟨B, 0, none⟩ = some (.slice (some ⟨G, 0, none⟩) n c) := cells_keep (HO.out.trans hO1) HB.out (by simpa using hBG)
      have HC2' := Lib.hid (HC2.out wD up1 hB1 hF1 hR1)
      have HO1 := Lib.hid (HO.out.trans hO1)
      clear hF1 hR1 hO1 HC1 HC2 hB1 hBr
      go_wp2_with fail
      refine HC2'.out.mono ?_
      rintro e wE ⟨rfl, up2, hF2, hR2, hO2⟩
      have hB2 : wE.cell? ⟨B, 0, none⟩ = some (.slice (some ⟨G, 0, none⟩) n c) := cells_keep (HO1.out.trans hO2) HB.out (by simpa using hBG)
      have HO2 := Lib.hid (HO1.out.trans hO2)
      obtain ⟨d', hF3⟩ := HN.out up2 hF2
      have HF3 := Lib.hid hF3
      have k4 := hR2.cell hmxn
      have z4 := hR2.frozen mx
      have HR3 := Lib.hid (hR2.put mx mn)
      have HO3' := Lib.hid (HO2.out.setCell (g := G) (i := mx) (by simp) (.int .i64 (mn : Nat)))
      clear hF2 hR2 hO2 hF3 HC2' HO1 hx hy HN
      have hcase : (mx = y ∧ mn = x ∧ x < y) ∨ (mx = x ∧ mn = x ∧ x = y) ∨ (mx = x ∧ mn = y ∧ y < x) := by omega
      rcases hcase with ⟨h1, h2, hxy⟩ | ⟨h1, h2, hxy⟩ | ⟨h1, h2, hxy⟩
      · subst h1 h2
        clear qm qn
        have i1 : ¬ ((mx : Int) < (mn : Int)) := by omega
        have i2 : (mn : Int) < (mx : Int) := by omega
        go_wp2_with fail
        refine ⟨⟨t + 1, by omega, by go_num, Lib.hid ⟨_, d', ?_, HR3.out⟩, HO3'⟩, by simp [intOf]; omega⟩
        show Forest n _ (uni (jl f1 f2 t) (t, f2 t)) d'
        rw [HZ.out]
        exact HF3.out
      · subst h1 h2 hxy
        clear qm qn
        go_wp2_with fail
        refine ⟨⟨t + 1, by omega, by go_num, Lib.hid ⟨_, d', ?_, HR3.out⟩, HO3'⟩, by simp [intOf]; omega⟩
        show Forest n _ (uni (jl f1 f2 t) (t, f2 t)) d'
        rw [HZ.out]
        exact HF3.out
      · subst h1 h2
        clear qm qn
        have i1 : ¬ ((mx : Int) < (mn : Int)) := by omega
        have i2 : (mn : Int) < (mx : Int) := by omega
        go_wp2_with fail
        refine ⟨⟨t + 1, by omega, by go_num, Lib.hid ⟨_, d', ?_, HR3.out⟩, HO3'⟩, by simp [intOf]; omega⟩
        show Forest n _ (uni (jl f1 f2 t) (t, f2 t)) d'
        rw [HZ.out]
        exact HF3.out
    · obtain rfl : t = n := by omega
      have hmk := mk_ints t (by omega) wr
      have HF6 := Lib.hid HF.out
      clear HF hlt ht HJ
      go_upto_region 13 with (fail)
      obtain ⟨W6, hW6⟩ : ∃ W6, wr.alloc (.cells (madeCells #[.int .i64 0] t) 3) = W6 := ⟨_, rfl⟩
      have hO6 : Only [] wr W6 := hW6 ▸ (Only.refl [] wr).alloc _
      have HRJ := Lib.hid (made_row (hW6 ▸ heap_alloc_new wr _ : W6.heap[wr.heap.size]? = some (.cells (madeCells #[.int .i64 0] t) 3 (0, 0))))
      have hsr := HO.out.size
      have HO6 := Lib.hid (HO.out.trans (hO6.mono (by simp)))
      rw [hW6]
      obtain ⟨JB, hJB⟩ : ∃ JB, wr.heap.size = JB := ⟨_, rfl⟩
      rw [hJB] at HRJ hsr ⊢
      have HF7 := Lib.hid (show ∃ up d, Forest t up (jl f1 f2 t) d ∧ Row W6 G t up from let ⟨up, d, hF, hR⟩ := HF6.out; ⟨up, d, hF, hR.only hO6 (by simp)⟩)
      have hJG : JB ≠ G := by omega
      have hJB2 : JB ≠ B := by omega
      clear hmk hW6 hO6 HF6
      go_wp2_with fail
      go_loopw [51] (fun y wq => ∃ j : Nat, j ≤ t ∧ y = .int .i64 j ∧ Hid (∃ up d, Forest t up (jl f1 f2 t) d ∧ Row wq G t up) ∧ Hid (Row wq JB t (fun x => if x < j then f2 x else 0)) ∧ Hid (Only [G] wC wq)) (fun y _ => t - (intOf y).toNat)
      case atStart => exact ⟨0, Nat.zero_le _, rfl, HF7, Lib.hid (RowGe.congr HRJ.out fun i _ => by dsimp only; rw [if_neg (Nat.not_lt_zero i)]), HO6⟩
      case round =>
        clear HF7 HRJ HO6
        obtain ⟨j, hj, rfl, HF, HRJ, HOq⟩ := hrel
        by_cases hlt : j < t
        · obtain ⟨up, d, hF, hR⟩ := HF.out
          rename_i wq _
          have hBr := cells_keep HOq.out HB.out (show B ∉ [G] by simpa using hBG)
          have HC1 := Lib.hid (jend_any B G t c j up (jl f1 f2 t) d _ hBr hBG hR hF hlt)
          rw [HE.out j hlt] at HC1
          obtain ⟨z, hz⟩ : ∃ z, f2 j = z := ⟨_, rfl⟩
          rw [hz] at HC1
          have HZ := Lib.hid hz
          clear hF hR HF hz
          go_wp2_with fail
          refine HC1.out.mono ?_
          rintro e wE ⟨rfl, up1, hF1, hR1, hO1⟩
          have hJ1 := HRJ.out.only hO1 (by simpa using hJG)
          have k4 := hJ1.cell hlt
          have z4 := hJ1.frozen j
          rw [if_neg (Nat.lt_irrefl j)] at k4
          have HJ2 := Lib.hid (hJ1.put j z)
          have HR2 := Lib.hid (And.intro hF1 (hR1.set_other (i := j) (Ne.symm hJG) (.int .i64 (z : Nat))))
          have HO2 := Lib.hid ((HOq.out.trans hO1).to ((Only.refl [JB] wE).setCell (g := JB) (i := j) (by simp) (.int .i64 (z : Nat))) (fun g hg hl => by simp at hg; omega))
          clear hF1 hR1 hO1 hJ1 HC1 HRJ
          go_wp2_with fail
          refine ⟨⟨j + 1, by omega, by go_num, Lib.hid ⟨_, _, HR2.out.1, HR2.out.2⟩, Lib.hid (RowGe.congr HJ2.out fun i _ => ?_), HO2⟩, by simp [intOf]; omega⟩
          unfold put
          dsimp only
          by_cases e : i = j
          · subst e; rw [if_pos rfl, if_pos (by omega), HZ.out]
          · rw [if_neg e]
            have e2 : (i < j) = (i < j + 1) := by apply propext; omega
            simp only [e2]
        · obtain rfl : j = t := by omega
          have HR9 := Lib.hid (RowGe.congr HRJ.out (u := fun i => .int .i64 (f2 i : Nat)) fun i hi => by dsimp only; rw [if_pos hi])
          go_wp2_with fail
          go_ret2
          exact ⟨JB, rfl, HR9.out, by omega, HO3.out.to HOq.out fun g hg hl => by simp at hg; omega⟩

end Go.Proofs.Ytipgbbhgmoehfaa
