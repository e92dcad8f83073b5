import Derived.Maps.OwnSet
import Derived.WideKeyPair
import Derived.Test.YtipgbbhgmoehfaaYPT
import Derived.Test.YtipgbbhgmoehfaaYI
import Derived.Test.YtipgbbhgmoehfaaYM
/-
  partition.Meet at canonical labels of which the first refine the second.
-/
namespace Go.Proofs.Ytipgbbhgmoehfaa
open Go.RowKit Go.Maps Go.WideMaps
attribute [local go_sem] Oper.semAt_some
set_option linter.unusedSimpArgs false
set_option linter.unusedVariables false
set_option linter.unusedSectionVars false

theorem arrK : ArrKey Try.prog 102 3 2 := ⟨Try.underlying102, by kernel_rfl, by kernel_rfl, by kernel_rfl⟩
theorem keyedP : Keyed Try.prog 102 := Keyed.of_law arrK.law
theorem typesP : ∃ m, Try.prog.types.size = m + 1 := ⟨Try.prog.types.size - 1, (Nat.sub_add_cancel (Nat.le_of_ble_eq_true (by kernel_rfl))).symm⟩
def pk (a b : Nat) : Lit := .string (keyBytes [.int .i64 (a : Int), .int .i64 (b : Int)])
theorem wf_small {a : Nat} (h : a ≤ 65536) : (Lit.int .i64 (a : Int)).wf = true := wf_of (by omega) (by omega)
theorem pk_key {a b : Nat} (ha : a ≤ 65536) (hb : b ≤ 65536) : keyOf Try.prog 102 (.agg #[.int .i64 (a : Int), .int .i64 (b : Int)]) = some (pk a b) := keyOf_pair arrK Try.underlying3 typesP (wf_small ha) (wf_small hb)
theorem pk_inj {a b c d : Nat} (ha : a ≤ 65536) (hb : b ≤ 65536) (hc : c ≤ 65536) (hd : d ≤ 65536) (e : pk a b = pk c d) : a = c ∧ b = d := by
  unfold pk at e
  injection e with e
  have := keyBytes_inj (l := [.int .i64 (a : Int), .int .i64 (b : Int)]) (l' := [.int .i64 (c : Int), .int .i64 (d : Int)]) (by simp [Alike, Lit.sameKind]) (by
    intro x hx
    simp only [List.mem_cons, List.not_mem_nil, or_false] at hx
    rcases hx with rfl | rfl <;> exact wf_small (by assumption)) (by
    intro x hx
    simp only [List.mem_cons, List.not_mem_nil, or_false] at hx
    rcases hx with rfl | rfl <;> exact wf_small (by assumption)) e
  injection this with h1 h2
  injection h2 with h2 _
  injection h1 with _ h1
  injection h2 with _ h2
  omega
theorem pk_lit (a b : Nat) : WideAt.IsKeyLit (pk a b) := trivial
/-- The names after k elements. -/
def Named (f1 f2 : Nat → Nat) (k : Nat) (D : DataW Unit) : Prop := IsMap D ∧ ∀ a b, a ≤ 65536 → b ≤ 65536 →
  ((∃ y, y < k ∧ f1 y = a ∧ f2 y = b) ∧ has D (pk a b) = true ∧ D.atKey (pk a b) (.lit (.int .i64 0)) = .lit (.int .i64 (a : Nat))) ∨ ((¬ ∃ y, y < k ∧ f1 y = a ∧ f2 y = b) ∧ has D (pk a b) = false)
theorem Named.start (f1 f2 : Nat → Nat) : Named f1 f2 0 (.map []) := ⟨isMap_empty, fun a b _ _ => .inr ⟨fun ⟨y, hy, _⟩ => absurd hy (Nat.not_lt_zero y), rfl⟩⟩
theorem Named.old {f1 f2 : Nat → Nat} {k : Nat} {D : DataW Unit} (h : Named f1 f2 k D) (he : ∃ y, y < k ∧ f1 y = f1 k ∧ f2 y = f2 k) : Named f1 f2 (k + 1) D := by
  refine ⟨h.1, fun a b ha hb => ?_⟩
  rcases h.2 a b ha hb with ⟨⟨y, hy, h1, h2⟩, h3⟩ | ⟨h1, h2⟩
  · exact .inl ⟨⟨y, by omega, h1, h2⟩, h3⟩
  · refine .inr ⟨fun ⟨y, hy, h3, h4⟩ => ?_, h2⟩
    by_cases e : y = k
    · obtain ⟨z, hz, e1, e2⟩ := he
      subst e
      exact h1 ⟨z, hz, by omega, by omega⟩
    · exact h1 ⟨y, by omega, h3, h4⟩
theorem Named.new {f1 f2 : Nat → Nat} {k : Nat} {D : DataW Unit} (h : Named f1 f2 k D) (h1 : f1 k = k) (hk : k ≤ 65536) (h2 : f2 k ≤ 65536) : Named f1 f2 (k + 1) (D.put (pk (f1 k) (f2 k)) (.lit (.int .i64 (k : Nat)))) := by
  refine ⟨h.1.put _ _, fun a b ha hb => ?_⟩
  by_cases e : a = f1 k ∧ b = f2 k
  · obtain ⟨rfl, rfl⟩ := e
    refine .inl ⟨⟨k, by omega, rfl, rfl⟩, has_put_same h.1 (pk_lit _ _) _, ?_⟩
    rw [atKey_put_same h.1 (pk_lit _ _), h1]
  · have hne : pk a b ≠ pk (f1 k) (f2 k) := fun e2 => e (pk_inj ha hb (by omega) h2 e2)
    rw [has_put_other hne, atKey_put_other hne]
    rcases h.2 a b ha hb with ⟨⟨y, hy, h3, h4⟩, h5⟩ | ⟨h3, h4⟩
    · exact .inl ⟨⟨y, by omega, h3, h4⟩, h5⟩
    · refine .inr ⟨fun ⟨y, hy, h5, h6⟩ => ?_, h4⟩
      by_cases e2 : y = k
      · subst e2; exact e ⟨h5.symm, h6.symm⟩
      · exact h3 ⟨y, by omega, h5, h6⟩

set_option maxRecDepth 100000 in
set_option maxHeartbeats 2000000 in
theorem mkey_any (B1 B2 g1 g2 n c1 c2 i : Nat) (f1 f2 : Nat → Nat) (w : World) (h1 : Row w g1 n f1) (h2 : Row w g2 n f2) (k1 : w.cell? ⟨B1, 0, none⟩ = some (.slice (some ⟨g1, 0, none⟩) n c1)) (k2 : w.cell? ⟨B2, 0, none⟩ = some (.slice (some ⟨g2, 0, none⟩) n c2)) (hi : i < n) :
    Calls Try.prog 79 #[.int .i64 i, .pointer (some ⟨B1, 0, none⟩), .pointer (some ⟨B2, 0, none⟩)] w fun e w' => e = .returned (.agg #[.int .i64 (f1 i : Nat), .int .i64 (f2 i : Nat)]) ∧ Only [] w w' := by
  go_enter Try.func79, Try.ntmps79
  go_upto_region 1 with (fail)
  obtain ⟨W1, hW1⟩ : ∃ W1, w.alloc (.cells #[.int .i64 0, .int .i64 0] 102) = W1 := ⟨_, rfl⟩
  have k0 : W1.heap[w.heap.size]? = some (.cells #[.int .i64 0, .int .i64 0] 102 (0, 0)) := hW1 ▸ heap_alloc_new w _
  have hO : Only [] w W1 := hW1 ▸ (Only.refl [] w).alloc _
  rw [hW1]
  have m1 := cells_keep hO k1 (by simp)
  have m2 := cells_keep hO k2 (by simp)
  have r1 := (h1.only hO (by simp)).cell hi
  have r2 := (h2.only hO (by simp)).cell hi
  have d0 := cell_of_heap (i := 0) k0 rfl
  have d1 := cell_of_heap (i := 1) k0 rfl
  have y0 := frozen_of_heap (i := 0) k0
  have y1 := frozen_of_heap (i := 1) k0
  obtain ⟨R, hR⟩ : ∃ R, w.heap.size = R := ⟨_, rfl⟩
  have HO2 := Lib.hid (hO.to (((Only.refl [R] W1).setCell (g := R) (i := 0) (by simp) (.int .i64 (f1 i : Nat))).setCell (g := R) (i := 1) (by simp) (.int .i64 (f2 i : Nat))) fun j hj hlt => by simp at hj; omega)
  rw [hR] at k0 d0 d1 y0 y1 ⊢
  have k5 := heap_setCell_same _ _ 1 _ 102 (.int .i64 (f2 i : Nat)) (heap_setCell_same W1 _ 0 _ 102 (.int .i64 (f1 i : Nat)) k0)
  have e0 := cell_of_heap (i := 0) k5 rfl
  have e1 := cell_of_heap (i := 1) k5 rfl
  replace d0 : W1.cell? ⟨R, 0, none⟩ = some (.int .i64 0) := d0
  replace d1 : W1.cell? ⟨R, 1, none⟩ = some (.int .i64 0) := d1
  replace e0 : ((W1.setCell ⟨R, 0, none⟩ (.int .i64 (f1 i : Nat))).setCell ⟨R, 1, none⟩ (.int .i64 (f2 i : Nat))).cell? ⟨R, 0, none⟩ = some (.int .i64 (f1 i : Nat)) := e0
  replace e1 : ((W1.setCell ⟨R, 0, none⟩ (.int .i64 (f1 i : Nat))).setCell ⟨R, 1, none⟩ (.int .i64 (f2 i : Nat))).cell? ⟨R, 1, none⟩ = some (.int .i64 (f2 i : Nat)) := e1
  clear h1 h2 k1 k2 k0 hW1 hO hR k5
  obtain ⟨x, hx⟩ : ∃ x, f1 i = x := ⟨_, rfl⟩
  obtain ⟨y, hy⟩ : ∃ y, f2 i = y := ⟨_, rfl⟩
  simp only [hx, hy] at r1 r2 e0 e1 HO2
  have HXY := Lib.hid (And.intro hx hy)
  clear hx hy
  go_region
  go_wp2_with fail
  clear d0 d1
  obtain ⟨W5, hW5⟩ : ∃ W5, ((W1.setCell ⟨R, 0, none⟩ (.int .i64 x)).setCell ⟨R, 1, none⟩ (.int .i64 y)).drew = W5 := ⟨_, rfl⟩
  rw [hW5]
  have d0 : W5.cell? ⟨R, 0, none⟩ = some (.int .i64 x) := by rw [← hW5]; exact e0
  have d1 : W5.cell? ⟨R, 1, none⟩ = some (.int .i64 y) := by rw [← hW5]; exact e1
  have HO3 := Lib.hid (hW5 ▸ HO2.out.drewN 1 : Only [] w W5)
  clear e0 e1 hW5 m1 m2 y0 y1 r1 r2
  refine bodyPost_ret (v := .agg #[.int .i64 x, .int .i64 y]) (by simp [results, Try.results79, go_sem, d0, d1]) rfl ⟨by rw [HXY.out.1, HXY.out.2], HO3.out⟩

theorem run_makeMapP (w : World) : (Instr.makeMap 179 none).run Try.prog w = .ok (.map (some w.heap.size)) (w.alloc (.map #[] 0)) := by
  simp [Instr.makeMap, run_underlying Try.underlying179, asInt]
theorem grown_only {W W' : World} (h : Only [] W W') : W.grownBy W' none := ⟨h.os, h.tape, h.output, h.size, fun k hk _ => h.block k hk (by simp)⟩

set_option maxRecDepth 100000 in
set_option maxHeartbeats 4000000 in
theorem name_any (B1 B2 g1 g2 n c1 c2 : Nat) (f1 f2 : Nat → Nat) (w : World) (h1 : Row w g1 n f1) (h2 : Row w g2 n f2) (k1 : w.cell? ⟨B1, 0, none⟩ = some (.slice (some ⟨g1, 0, none⟩) n c1)) (k2 : w.cell? ⟨B2, 0, none⟩ = some (.slice (some ⟨g2, 0, none⟩) n c2))
    (hl1 : Labs n f1) (hl2 : Labs n f2) (hr : ∀ x, x < n → f2 (f1 x) = f2 x) (hn : n ≤ 65536) :
    Calls Try.prog 78 #[.int .i64 n, .func (.func 79) #[] #[.pointer (some ⟨B1, 0, none⟩), .pointer (some ⟨B2, 0, none⟩)]] w fun e w' => ∃ g, e = .returned (.slice (some ⟨g, 0, none⟩) n n) ∧ Row w' g n f1 ∧ w.heap.size ≤ g ∧ Only [] w w' := by
  have hmm := run_makeMapP
  have hmk := mk_ints n (by omega) (w.alloc (.map #[] 0))
  have CK := Lib.hid (fun W i (hi : i < n) (hO : Only [] w W) => mkey_any B1 B2 g1 g2 n c1 c2 i f1 f2 W (h1.only hO (by simp)) (h2.only hO (by simp)) (cells_keep hO k1 (by simp)) (cells_keep hO k2 (by simp)) hi)
  have HL := Lib.hid (And.intro hl1 (And.intro hl2 hr))
  clear h1 h2 k1 k2 hl1 hl2 hr
  go_enter Try.func78, Try.ntmps78
  go_upto_region 3 with (fail)
  obtain ⟨W2, hW2⟩ : ∃ W2, (w.alloc (.map #[] 0)).alloc (.cells (madeCells #[.int .i64 0] n) 3) = W2 := ⟨_, rfl⟩
  have HM0 := Lib.hid (show W2.ownsMap (H := Unit) Try.prog 102 (plainElem Try.prog 3) w.heap.size 0 (.map []) from hW2 ▸ (World.ownsMap_made w _ _ _).alloc _)
  have HR0 := Lib.hid (made_row (hW2 ▸ (by have := heap_alloc_new (w.alloc (.map #[] 0)) (.cells (madeCells #[.int .i64 0] n) 3); rw [World.size_alloc] at this; exact this) : W2.heap[w.heap.size + 1]? = some (.cells (madeCells #[.int .i64 0] n) 3 (0, 0))))
  have HO0 := Lib.hid (show Only [] w W2 from hW2 ▸ ((Only.refl [] w).alloc _).alloc _)
  try rw [World.size_alloc]
  rw [hW2]
  obtain ⟨MB, hMB⟩ : ∃ MB, w.heap.size = MB := ⟨_, rfl⟩
  rw [hMB] at HM0 HR0 ⊢
  obtain ⟨LB, hLB⟩ : ∃ LB, MB + 1 = LB := ⟨_, rfl⟩
  rw [hLB] at HR0 ⊢
  clear hmk hmm hW2
  go_wp2_with fail
  go_loopw [16] (fun y wr => ∃ (i : Nat) (D : DataW Unit), i ≤ n ∧ y = .int .i64 i ∧ Hid (wr.ownsMap Try.prog 102 (plainElem Try.prog 3) MB i D) ∧ Hid (Named f1 f2 i D) ∧ Hid (Row wr LB n (fun x => if x < i then f1 x else 0)) ∧ Hid (Only [] w wr)) (fun y _ => n - (intOf y).toNat)
  case atStart => exact ⟨0, .map [], Nat.zero_le _, rfl, HM0, Lib.hid (Named.start _ _), Lib.hid (RowGe.congr HR0.out fun i _ => by dsimp only; rw [if_neg (Nat.not_lt_zero i)]), HO0⟩
  case round =>
    clear HM0 HR0 HO0
    obtain ⟨i, D, hi, rfl, HM, HN, HR, HO⟩ := hrel
    by_cases hlt : i < n
    · have CC := Lib.hid (CK.out wr i hlt HO.out)
      have hl := HL.out.1 i hlt
      have hl2 := HL.out.2.1.lt hlt
      have hre := HL.out.2.2 i hlt
      have hc := HN.out.2 (f1 i) (f2 i) (by omega) (by omega)
      have hkey := pk_key (a := f1 i) (b := f2 i) (by omega) (by omega)
      have HC := Lib.hid hc
      have hnew := fun h1 => HN.out.new (k := i) h1 (by omega) (by omega)
      have hold := HN.out.old (k := i)
      have hfi : ¬ (∃ y, y < i ∧ f1 y = f1 i ∧ f2 y = f2 i) → f1 i = i := fun h => by
        have h3 := hl.1
        rcases Nat.lt_or_eq_of_le h3 with h4 | h4
        · exact absurd ⟨f1 i, h4, hl.2, hre⟩ h
        · exact h4
      obtain ⟨x, hx⟩ : ∃ x, f1 i = x := ⟨_, rfl⟩
      obtain ⟨y, hy⟩ : ∃ y, f2 i = y := ⟨_, rfl⟩
      simp only [hx, hy] at CC hkey HC hnew hold hfi hl
      have HX := Lib.hid hx
      have Hnew := Lib.hid hnew
      have Hold := Lib.hid hold
      have Hfi := Lib.hid hfi
      clear hx hy hnew hold hfi hc hre hl2
      go_wp2_with fail
      refine CC.out.mono ?_
      rintro e wD ⟨rfl, hOD⟩
      have HMD := Lib.hid (HM.out.kept (grown_only hOD) (by simp))
      have HRD := Lib.hid (HR.out.only hOD (by simp))
      have HOD := Lib.hid (HO.out.trans hOD)
      clear CC hOD HM HR HO
      go_upto_region 7 with (fail)
      obtain ⟨W7, hW7⟩ : ∃ W7, wD.alloc (.cells #[.int .i64 x, .int .i64 y] 102) = W7 := ⟨_, rfl⟩
      have k0 : W7.heap[wD.heap.size]? = some (.cells #[.int .i64 x, .int .i64 y] 102 (0, 0)) := hW7 ▸ heap_alloc_new wD _
      have hO7 : Only [] wD W7 := hW7 ▸ (Only.refl [] wD).alloc _
      have HM7 := Lib.hid (HMD.out.kept (grown_only hO7) (by simp))
      have hR7 := HRD.out.only hO7 (by simp)
      have HR7 := Lib.hid hR7
      have HO7 := Lib.hid (HOD.out.trans hO7)
      rw [hW7]
      have hkb := HRD.out.lt
      obtain ⟨KB, hKB⟩ : ∃ KB, wD.heap.size = KB := ⟨_, rfl⟩
      rw [hKB] at k0 hkb ⊢
      have d0 := cell_of_heap (i := 0) k0 rfl
      have d1 := cell_of_heap (i := 1) k0 rfl
      replace d0 : W7.cell? ⟨KB, 0, none⟩ = some (.int .i64 x) := d0
      replace d1 : W7.cell? ⟨KB, 1, none⟩ = some (.int .i64 y) := d1
      have k4 := hR7.cell hlt
      have z4 := hR7.frozen i
      rw [if_neg (Nat.lt_irrefl i)] at k4
      have hput := fun (z : Nat) (hz : x = z) (W' : World) (h : Row W' LB n (put (fun x => if x < i then f1 x else 0) i z)) => (RowGe.congr h (u := fun a => .int .i64 ((if a < i + 1 then f1 a else 0 : Nat) : Int)) fun a ha => by
        unfold put
        dsimp only
        by_cases e : a = i
        · subst e; rw [if_pos rfl, if_pos (by omega), HX.out, hz]
        · rw [if_neg e]
          have e2 : (a < i) = (a < i + 1) := by apply propext; omega
          simp only [e2])
      have HP := Lib.hid hput
      obtain ⟨v, ps, hrun, hv⟩ := HM7.out.look_ok keyedP Try.underlying179 (zeroI _) (plainElem_int Try.underlying3 (wf_small (Nat.zero_le _))) hkey
      obtain ⟨cv, rfl, hcv⟩ := plainElem_int_inv Try.underlying3 hv
      clear k0 hW7 hO7 HMD HRD HOD hR7 hput
      have hlm : LB ≠ MB := by omega
      rcases HC.out with ⟨he, hh, ha⟩ | ⟨he, hh⟩
      · have ecv : cv = (x : Int) := by
          have h5 := congrArg Prod.fst hcv.1
          rw [ha] at h5
          injection h5 with h5
          injection h5 with _ h5
          exact h5.symm
        rw [hh, ecv] at hrun
        have HN2 := Lib.hid (Hold.out he)
        clear he hh ha hcv hv ecv HC
        go_wp2_with fail
        exact ⟨⟨i + 1, D, by omega, by go_num, Lib.hid ((HM7.out.setCell (a := ⟨LB, i, none⟩) (Ne.symm hlm) _).mono (by omega)), HN2, Lib.hid (HP.out x rfl _ (HR7.out.put i x)), Lib.hid (HO7.out.to ((Only.refl [LB] W7).setCell (g := LB) (i := i) (by simp) _) fun g hg hl => by simp at hg; omega)⟩, by simp [intOf]; omega⟩
      · rw [hh] at hrun
        have hxi := Lib.hid (Hfi.out he)
        have HN2 := Lib.hid (Hnew.out hxi.out)
        clear he hh hcv hv HC
        go_wp2_with (at_mapUpdate; refine wpList_mapUpdate_own _ rfl _ _ _ 179 rfl 102 3 keyedP Try.underlying179 _ MB i _ rfl HM7.out (by unfold maxLen; omega) _ _ _ rfl rfl hkey _ [] (plainElem_int Try.underlying3 (wf_small (a := i) (by omega))) ?_; intro w1 hown1 hgrow1; have HM8 := Lib.hid hown1; have hb8 := (hgrow1.block LB HR7.out.lt (by simpa using hlm)); have HR8 := Lib.hid (HR7.out.same hb8); have k5 := HR8.out.cell hlt; have z5 := HR8.out.frozen i; rw [if_neg (Nat.lt_irrefl i)] at k5; have HO8 := Lib.hid (show Only [MB] W7 w1 from ⟨hgrow1.os, hgrow1.tape, hgrow1.output, hgrow1.size, fun k hk hn => hgrow1.block k hk (fun e => by cases e; simp at hn)⟩); clear hown1 hgrow1 hb8)
        exact ⟨⟨i + 1, _, by omega, by go_num, Lib.hid (HM8.out.setCell (a := ⟨LB, i, none⟩) (Ne.symm hlm) _), HN2, Lib.hid (HP.out i hxi.out _ (HR8.out.put i i)), Lib.hid ((HO7.out.to HO8.out fun g hg hl => by simp at hg; omega).to ((Only.refl [LB] w1).setCell (g := LB) (i := i) (by simp) _) fun g hg hl => by simp at hg; omega)⟩, by simp [intOf]; omega⟩
    · obtain rfl : i = n := by omega
      have HR9 := Lib.hid (RowGe.congr HR.out (u := fun i => .int .i64 (f1 i : Nat)) fun i hi => by dsimp only; rw [if_pos hi])
      go_wp2_with fail
      go_ret
      exact ⟨LB, rfl, HR9.out, by omega, HO.out⟩

set_option maxRecDepth 100000 in
set_option maxHeartbeats 2000000 in
theorem Meet_any (g1 g2 n c1 c2 : Nat) (f1 f2 : Nat → Nat) (w : World) (h1 : Row w g1 n f1) (h2 : Row w g2 n f2) (hl1 : Labs n f1) (hl2 : Labs n f2) (hr : ∀ x, x < n → f2 (f1 x) = f2 x) (hn : n ≤ 65536) :
    Calls Try.prog 22 #[.slice (some ⟨g1, 0, none⟩) n c1, .slice (some ⟨g2, 0, none⟩) n c2] w fun e w' => ∃ g, e = .returned (.tuple #[.slice (some ⟨g, 0, none⟩) n n, .int .i64 0]) ∧ Row w' g n f1 ∧ w.heap.size ≤ g ∧ Only [] w w' := by
  have CC := Lib.hid (pcheck_any g1 g2 n c1 c2 f1 f2 w h1 h2 hl1 hl2 hn)
  have CM := Lib.hid (fun W (hO : Only [] w W) => show Calls Try.prog 52 #[.slice (some ⟨g1, 0, none⟩) n c1, .slice (some ⟨g2, 0, none⟩) n c2] W fun e w' => ∃ g, e = .returned (.slice (some ⟨g, 0, none⟩) n n) ∧ Row w' g n f1 ∧ W.heap.size ≤ g ∧ Only [] W w' by
    have r1 := h1.only hO (by simp)
    have r2 := h2.only hO (by simp)
    clear CC
    go_enter Try.func52, Try.ntmps52
    go_upto_region 1 with (fail)
    obtain ⟨W2, hW2⟩ : ∃ W2, (W.alloc (.cells #[.slice (some ⟨g1, 0, none⟩) n c1] 30)).alloc (.cells #[.slice (some ⟨g2, 0, none⟩) n c2] 30) = W2 := ⟨_, rfl⟩
    have hO2 : Only [] W W2 := hW2 ▸ ((Only.refl [] W).alloc _).alloc _
    have b2 : W2.heap[W.heap.size + 1]? = some (.cells #[.slice (some ⟨g2, 0, none⟩) n c2] 30 (0, 0)) := by
      have := heap_alloc_new (W.alloc (.cells #[.slice (some ⟨g1, 0, none⟩) n c1] 30)) (.cells #[.slice (some ⟨g2, 0, none⟩) n c2] 30)
      rw [World.size_alloc, hW2] at this
      exact this
    have b1 : W2.heap[W.heap.size]? = some (.cells #[.slice (some ⟨g1, 0, none⟩) n c1] 30 (0, 0)) := by
      rw [← hW2]
      exact (heap_alloc_old _ _ (by rw [World.size_alloc]; omega)).trans (heap_alloc_new W _)
    try rw [World.size_alloc]
    rw [hW2]
    have d1 := cell_of_heap (i := 0) b1 rfl
    have d2 := cell_of_heap (i := 0) b2 rfl
    replace d1 : W2.cell? ⟨W.heap.size, 0, none⟩ = some (.slice (some ⟨g1, 0, none⟩) n c1) := d1
    replace d2 : W2.cell? ⟨W.heap.size + 1, 0, none⟩ = some (.slice (some ⟨g2, 0, none⟩) n c2) := d2
    have CN := Lib.hid (name_any W.heap.size (W.heap.size + 1) g1 g2 n c1 c2 f1 f2 W2 (r1.only hO2 (by simp)) (r2.only hO2 (by simp)) d1 d2 hl1 hl2 hr hn)
    have HO2 := Lib.hid hO2
    clear r1 r2 hO2 b1 b2 hW2 d2 h1 h2 hO
    go_wp2_with fail
    refine CN.out.mono ?_
    rintro e w' ⟨g, rfl, hR, hg, hO3⟩
    have HH := Lib.hid (And.intro hR hO3)
    have hs := HO2.out.size
    clear hR hO3
    go_wp2_with fail
    go_ret
    exact ⟨g, rfl, HH.out.1, by omega, HO2.out.trans HH.out.2⟩)
  clear h1 h2 hl1 hl2 hr
  go_enter Try.func22, Try.ntmps22
  go_wp2_with fail
  refine CC.out.mono ?_
  rintro e wA ⟨rfl, hO⟩
  have HO := Lib.hid hO
  clear hO CC
  go_wp2_with fail
  refine (CM.out _ HO.out).mono ?_
  rintro e wB ⟨g, rfl, hR, hg, hO⟩
  have HH := Lib.hid (And.intro hR (HO.out.trans hO))
  have hs := HO.out.size
  clear hR hO
  go_wp2_with fail
  go_ret2
  exact ⟨g, rfl, HH.out.1, by omega, HH.out.2⟩

end Go.Proofs.Ytipgbbhgmoehfaa
