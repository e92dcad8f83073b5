import Derived.Test.YtipgbbhgmoehfaaDoorYLG
/-
  lift.New: the table of jumps of a forest.
-/
namespace Go.Proofs.YtipgbbhgmoehfaaDoor
open Go.RowKit
attribute [local go_sem] Oper.semAt_some
set_option linter.unusedSimpArgs false
set_option linter.unusedVariables false
set_option linter.unusedSectionVars false

/-- The ancestor 2^j above, or -1. -/
def ljmp (par : Nat → Int) : Nat → Nat → Int
  | 0 => par
  | j + 1 => fun v => if 0 ≤ ljmp par j v then ljmp par j (ljmp par j v).toNat else ljmp par j v
theorem ljmp_up {par : Nat → Int} {s : Nat} (hu : Up par s) : ∀ (j v : Nat), v < s → ljmp par j v = -1 ∨ ∃ y : Nat, ljmp par j v = (y : Int) ∧ v < y ∧ y < s
  | 0, v, hv => hu v hv
  | j + 1, v, hv => by
    show (if 0 ≤ ljmp par j v then ljmp par j (ljmp par j v).toNat else ljmp par j v) = -1 ∨ ∃ y : Nat, (if 0 ≤ ljmp par j v then ljmp par j (ljmp par j v).toNat else ljmp par j v) = (y : Int) ∧ v < y ∧ y < s
    rcases ljmp_up hu j v hv with h | ⟨y, h, h1, h2⟩
    · rw [h, if_neg (by omega)]; exact .inl rfl
    · rw [h, if_pos (by omega), Int.toNat_natCast]
      rcases ljmp_up hu j y h2 with h3 | ⟨z, h3, h4, h5⟩
      · exact .inl h3
      · exact .inr ⟨z, h3, by omega, h5⟩
def tv (DP s : Nat) (J : Nat → Nat) (j : Nat) : Nat → Value := fun i => if i = 0 then .bool true else if i = 1 then .slice (some ⟨DP, 0, none⟩) s s else if i - 2 < j then .slice (some ⟨J (i - 2), 0, none⟩) s s else .slice none 0 0
theorem tv_put (DP s : Nat) (J : Nat → Nat) (j b k : Nat) : (if k = 2 + j then .slice (some ⟨b, 0, none⟩) s s else tv DP s J j k) = tv DP s (put J j b) (j + 1) k := by
  unfold tv
  by_cases e0 : k = 0
  · rw [if_neg (by omega), if_pos e0, if_pos e0]
  · by_cases e1 : k = 1
    · rw [if_neg (by omega), if_neg e0, if_pos e1, if_neg e0, if_pos e1]
    · rw [if_neg e0, if_neg e1, if_neg e0, if_neg e1]
      by_cases e2 : k = 2 + j
      · rw [if_pos e2, if_pos (by omega), show k - 2 = j by omega, put_same]
      · rw [if_neg e2]
        by_cases e3 : k - 2 < j
        · rw [if_pos e3, if_pos (by omega), put_other _ _ (by omega)]
        · rw [if_neg e3, if_neg (by omega)]
theorem tv_at {DP s : Nat} {J : Nat → Nat} {j k : Nat} (h : k < j) : tv DP s J j (2 + k) = .slice (some ⟨J k, 0, none⟩) s s := by
  unfold tv
  rw [if_neg (by omega), if_neg (by omega), if_pos (by omega), show 2 + k - 2 = k by omega]
structure Table (W : World) (TB DP s : Nat) (J : Nat → Nat) (j : Nat) (par : Nat → Int) : Prop where
  head : RowGe W TB 99 15 (tv DP s J j)
  dep : RowZ W 3 DP s (fun x => ((dep par s x : Nat) : Int))
  jumps : ∀ i, i < j → RowZ W 3 (J i) s (ljmp par i)
theorem Table.only {W W' : World} {TB DP s : Nat} {J : Nat → Nat} {j : Nat} {par : Nat → Int} {gs : List Nat} (h : Table W TB DP s J j par) (hO : Only gs W W') (h1 : TB ∉ gs) (h2 : DP ∉ gs) (h3 : ∀ i, i < j → J i ∉ gs) : Table W' TB DP s J j par :=
  ⟨h.head.kept (hO.block _ h.head.ltb h1), h.dep.only hO h2, fun i hi => (h.jumps i hi).only hO (h3 i hi)⟩
def LiftPost (w : World) (s : Nat) (par : Nat → Int) (e : Ending) (w' : World) : Prop := ∃ TB DP J, e = .returned (.tuple #[.pointer (some ⟨TB, 0, none⟩), .int .i64 0]) ∧ Table w' TB DP s J 13 par ∧ w.heap.size ≤ TB ∧ Only [] w w'

set_option maxRecDepth 100000 in
set_option maxHeartbeats 8000000 in
theorem Lift_any {w : World} (P s : Nat) (par : Nat → Int) (h : RowZ w 3 P s par) (hu : Up par s) (hs : s ≤ 8192) : Calls Tryd.prog 12 #[.slice (some ⟨P, 0, none⟩) s s] w (LiftPost w s par) := by
  have CD := Lib.hid (fun W (hO : Only [] w W) => depths_any P s par (h.only hO (by simp)) hu hs)
  have hmk := fun W => mk_ints s (by omega) W
  have hPl := h.lt
  have q0 : ¬ ((8192 : Int) < (s : Int)) := by omega
  have HP := Lib.hid h
  have HU := Lib.hid hu
  clear h hu
  go_enter Tryd.func12, Tryd.ntmps12
  go_wp2_with fail
  go_loopw [19] (fun y wr => ∃ i : Nat, i ≤ s ∧ y = .int .i64 i ∧ Hid (Only [] w wr)) (fun y _ => s - (intOf y).toNat)
  case atStart => exact ⟨0, Nat.zero_le _, rfl, Lib.hid (Only.refl _ _)⟩
  case round =>
    obtain ⟨i, hi, rfl, HO⟩ := hrel
    by_cases hlt : i < s
    · have c1 := (HP.out.only HO.out (by simp)).cell hlt
      rcases HU.out i hlt with e | ⟨y, e, hy1, hy⟩
      · rw [e] at c1
        have q1 : ¬ ((s : Int) ≤ -1) := by omega
        clear e
        go_wp2_with fail
        exact ⟨⟨i + 1, by omega, by go_num, HO⟩, by simp [intOf]; omega⟩
      · rw [e] at c1
        have q1 : ¬ ((y : Int) < -1) := by omega
        have q2 : ¬ ((s : Int) ≤ (y : Int)) := by omega
        clear e
        go_wp2_with fail
        exact ⟨⟨i + 1, by omega, by go_num, HO⟩, by simp [intOf]; omega⟩
    · obtain rfl : i = s := by omega
      have CD2 := Lib.hid (CD.out _ HO.out)
      clear CD hlt hi
      go_wp2_with fail
      refine CD2.out.mono ?_
      rintro e w2 ⟨DP, rfl, hD, hDP, hO⟩
      have HD := Lib.hid hD
      have HO2 := Lib.hid (HO.out.trans hO)
      have hDl := hD.lt
      clear hD hO CD2 HO
      go_upto_region 14 with (fail)
      obtain ⟨w3, hw3⟩ : ∃ w3, w2.alloc (.cells #[.bool true, .slice (some ⟨DP, 0, none⟩) i i, .slice none 0 0, .slice none 0 0, .slice none 0 0, .slice none 0 0, .slice none 0 0, .slice none 0 0, .slice none 0 0, .slice none 0 0, .slice none 0 0, .slice none 0 0, .slice none 0 0, .slice none 0 0, .slice none 0 0] 99) = w3 := ⟨_, rfl⟩
      have hT0 : RowGe w3 w2.heap.size 99 15 (tv DP i (fun _ => 0) 0) := ⟨_, hw3 ▸ heap_alloc_new w2 _, fun k hk => by
        have hk' : k = 0 ∨ k = 1 ∨ k = 2 ∨ k = 3 ∨ k = 4 ∨ k = 5 ∨ k = 6 ∨ k = 7 ∨ k = 8 ∨ k = 9 ∨ k = 10 ∨ k = 11 ∨ k = 12 ∨ k = 13 ∨ k = 14 := by omega
        rcases hk' with rfl | rfl | rfl | rfl | rfl | rfl | rfl | rfl | rfl | rfl | rfl | rfl | rfl | rfl | rfl <;> rfl⟩
      have hO3 : Only [] w2 w3 := hw3 ▸ (Only.refl [] w2).alloc _
      have hs3 : w3.heap.size = w2.heap.size + 1 := by rw [← hw3, World.size_alloc]
      rw [hw3]
      obtain ⟨TB, hTB⟩ : ∃ TB, w2.heap.size = TB := ⟨_, rfl⟩
      rw [hTB] at hT0 hs3 hDl ⊢
      have hw2 := HO2.out.size
      have HT0 := Lib.hid (show Table w3 TB DP i (fun _ => 0) 0 par from ⟨hT0, HD.out.only hO3 (by simp), fun k hk => absurd hk (Nat.not_lt_zero k)⟩)
      have HO3 := Lib.hid (HO2.out.trans hO3)
      have hPT : P ≠ TB := by omega
      have hDT : DP ≠ TB := by omega
      clear hT0 hw3 hO3 HD HO2
      go_wp2_with fail
      go_loopw [41] (fun y wr => ∃ (j : Nat) (J : Nat → Nat), j ≤ 13 ∧ y = .int .i64 j ∧ Hid (Table wr TB DP i J j par) ∧ Hid (∀ k, k < j → J k ≠ TB) ∧ Hid (Only [TB] w3 wr)) (fun y _ => 13 - (intOf y).toNat)
      case atStart => exact ⟨0, _, Nat.zero_le _, rfl, HT0, Lib.hid (fun k hk => absurd hk (Nat.not_lt_zero k)), Lib.hid (Only.refl _ _)⟩
      case round =>
        clear HT0
        obtain ⟨j, J, hj, rfl, HT, HJ, HO⟩ := hrel
        by_cases hlt : j < 13
        · have k1 := HT.out.head.cellv (i := 2 + j) (by omega)
          rw [show tv DP i J j (2 + j) = .slice none 0 0 by unfold tv; rw [if_neg (by omega), if_neg (by omega), if_neg (by omega)]] at k1
          have z1 := HT.out.head.fz (2 + j)
          have hTl := HT.out.head.ltb
          have q2 : (j : Int) < 13 := by omega
          go_upto_region 17 with (fail)
          go_region
          obtain ⟨W17, hW17⟩ : ∃ W17, ((wr.setCell ⟨TB, 2 + j, none⟩ (.slice (some ⟨wr.heap.size, 0, none⟩) i i)).alloc (.cells (madeCells #[.int .i64 0] i) 3)).drew = W17 := ⟨_, rfl⟩
          have hold : ∀ k, k < wr.heap.size → k ≠ TB → W17.heap[k]? = wr.heap[k]? := fun k hk hne => by
            rw [← hW17]
            exact (heap_alloc_old _ _ (by rw [World.size_setCell]; exact hk)).trans (heap_setCell_other wr ⟨TB, 2 + j, none⟩ k _ hne)
          have hnew : W17.heap[wr.heap.size]? = some (.cells (madeCells #[.int .i64 0] i) 3 (0, 0)) := by
            rw [← hW17]
            have := heap_alloc_new (wr.setCell ⟨TB, 2 + j, none⟩ (.slice (some ⟨wr.heap.size, 0, none⟩) i i)) (.cells (madeCells #[.int .i64 0] i) 3)
            rw [World.size_setCell] at this
            exact this
          have hhead : RowGe W17 TB 99 15 (tv DP i (put J j wr.heap.size) (j + 1)) := by
            refine ((HT.out.head.set (2 + j) (.slice (some ⟨wr.heap.size, 0, none⟩) i i)).kept (by rw [← hW17]; exact heap_alloc_old _ _ (by rw [World.size_setCell]; exact hTl))).congr fun k hk => ?_
            exact tv_put _ _ _ _ _ _
          obtain ⟨JB, hJB⟩ : ∃ JB, wr.heap.size = JB := ⟨_, rfl⟩
          have hO17 : Only [TB] wr W17 := hW17 ▸ (((Only.refl [TB] wr).setCell (g := TB) (i := 2 + j) (by simp) _).alloc _).drewN 1
          have HJ17 := Lib.hid (show ∀ k, k < j → RowZ W17 3 (J k) i (ljmp par k) ∧ J k ≠ JB ∧ J k ≠ TB from fun k hk => ⟨(HT.out.jumps k hk).same (hold _ (HT.out.jumps k hk).lt (HJ.out k hk)), by have := (HT.out.jumps k hk).lt; omega, HJ.out k hk⟩)
          have hdlt := HT.out.dep.lt
          have HD17 := Lib.hid (HT.out.dep.same (hold _ hdlt hDT))
          rw [hW17]
          rw [hJB] at hnew hhead hTl hdlt ⊢
          have HN := Lib.hid (made_rowZ hnew)
          have HH := Lib.hid hhead
          have HO17 := Lib.hid (HO.out.trans hO17)
          have hTJ : TB ≠ JB := by omega
          have hDJ : DP ≠ JB := by omega
          have hJP : P ≠ JB := by omega
          clear hold hnew hhead hO17 hW17 HT HJ HO k1 z1
          go_wp2_with fail
          go_loopw [52] (fun y wr => ∃ k : Nat, k ≤ i ∧ y = .int .i64 k ∧ Hid (RowZ wr 3 JB i (fun v => if v < k then ljmp par j v else 0)) ∧ Hid (Only [JB] W17 wr)) (fun y _ => i - (intOf y).toNat)
          case atStart => exact ⟨0, Nat.zero_le _, rfl, Lib.hid (HN.out.congr fun v _ => (if_neg (Nat.not_lt_zero v)).symm), Lib.hid (Only.refl _ _)⟩
          case round =>
            clear HN
            obtain ⟨k, hk, rfl, HR, HO⟩ := hrel
            by_cases hki : k < i
            · have z1 := HR.out.frozen k
              have c1 := HR.out.cell hki
              rw [if_neg (Nat.lt_irrefl k)] at c1
              have hhd := HH.out.kept (HO.out.block _ HH.out.ltb (by simpa using hTJ))
              have k1 := hhd.cellv (i := 2 + j) (by omega)
              rw [show tv DP i (put J j JB) (j + 1) (2 + j) = .slice (some ⟨JB, 0, none⟩) i i by rw [tv_at (by omega), put_same]] at k1
              have HNx := Lib.hid (fun (x : Int) (W' : World) (h : RowZ W' 3 JB i (fun v => if v = k then x else if v < k then ljmp par j v else 0)) (e : ljmp par j k = x) => show RowZ W' 3 JB i (fun v => if v < k + 1 then ljmp par j v else 0) from h.congr fun v hv => by
                by_cases e1 : v = k
                · rw [if_pos e1, if_pos (by omega), e1, e]
                · rw [if_neg e1]
                  by_cases e2 : v < k
                  · rw [if_pos e2, if_pos (by omega)]
                  · rw [if_neg e2, if_neg (by omega)])
              have hPw := (HP.out.only HO3.out (by simp))
              have hP1 := ((hPw.only HO17.out (by simpa using hPT)).only HO.out (by simpa using hJP)).cell hki
              by_cases hj0 : j = 0
              · subst hj0
                replace k1 : wr.cell? ⟨TB, 2, none⟩ = some (.slice (some ⟨JB, 0, none⟩) i i) := k1
                have HRs := Lib.hid (fun (x : Int) => HR.out.set k x)
                obtain ⟨pk, hpk⟩ : ∃ pk, par k = pk := ⟨_, rfl⟩
                rw [hpk] at hP1
                have HPk := Lib.hid (show ljmp par 0 k = pk from hpk)
                have q4 : ((0 : Nat) : Int) = 0 := rfl
                clear hhd hPw hpk
                go_wp2_with fail
                go_region
                go_wp2_with fail
                exact ⟨⟨k + 1, by omega, by go_num, Lib.hid (HNx.out pk _ ((HRs.out pk).same rfl) HPk.out), Lib.hid (HO.out.trans (((Only.refl [JB] wr).setCell (g := JB) (i := k) (by simp) _).drewN 1))⟩, by simp [intOf]; omega⟩
              · obtain ⟨j', rfl⟩ : ∃ j', j = j' + 1 := ⟨j - 1, by omega⟩
                have k0 := hhd.cellv (i := 2 + j') (by omega)
                rw [tv_at (by omega), put_other _ _ (by omega)] at k0
                have hJr := ((HJ17.out j' (by omega)).1.only HO.out (by simpa using (HJ17.out j' (by omega)).2.1))
                have hJn := (HJ17.out j' (by omega)).2.1
                have d1 := hJr.cell hki
                have HRs := Lib.hid (fun (x : Int) => HR.out.set k x)
                have q4 : ¬ (((j' + 1 : Nat) : Int) = 0) := by omega
                have q5 : ((j' + 1 : Nat) : Int) - 1 = (j' : Int) := by omega
                have q6 : (j' : Int) < 13 := by omega
                have q7 : (((j' + 1 : Nat) : Int) == 0) = false := by simp; omega
                rcases ljmp_up HU.out j' k hki with e | ⟨y, e, hy1, hy2⟩
                · rw [e] at d1
                  have HV := Lib.hid (show ljmp par (j' + 1) k = -1 from by show (if 0 ≤ ljmp par j' k then ljmp par j' (ljmp par j' k).toNat else ljmp par j' k) = -1; rw [e]; rfl)
                  clear hhd hPw e hJr hP1
                  go_wp2_with fail
                  exact ⟨⟨k + 1, by omega, by go_num, Lib.hid (HNx.out (-1) _ (HRs.out (-1)) HV.out), Lib.hid (HO.out.trans ((Only.refl [JB] wr).setCell (g := JB) (i := k) (by simp) _))⟩, by simp [intOf]; omega⟩
                · rw [e] at d1
                  have d2 := hJr.cell hy2
                  obtain ⟨hv, hhv⟩ : ∃ hv, ljmp par j' y = hv := ⟨_, rfl⟩
                  rw [hhv] at d2
                  have HV := Lib.hid (show ljmp par (j' + 1) k = hv from by show (if 0 ≤ ljmp par j' k then ljmp par j' (ljmp par j' k).toNat else ljmp par j' k) = hv; rw [e, if_pos (by omega), Int.toNat_natCast]; exact hhv)
                  clear hhd hPw e hJr hP1 hhv
                  go_wp2_with fail
                  exact ⟨⟨k + 1, by omega, by go_num, Lib.hid (HNx.out hv _ (HRs.out hv) HV.out), Lib.hid (HO.out.trans ((Only.refl [JB] wr).setCell (g := JB) (i := k) (by simp) _))⟩, by simp [intOf]; omega⟩
            · obtain rfl : k = i := by omega
              have HT2 := Lib.hid (show Table wr TB DP k (put J j JB) (j + 1) par from
                ⟨HH.out.kept (HO.out.block _ HH.out.ltb (by simpa using hTJ)), HD17.out.only HO.out (by simpa using hDJ), fun a ha => by
                  by_cases e : a = j
                  · rw [e, put_same]
                    exact HR.out.congr fun v hv => if_pos hv
                  · rw [put_other _ _ e]
                    exact (HJ17.out a (by omega)).1.only HO.out (by simpa using (HJ17.out a (by omega)).2.1)⟩)
              have HJ2 := Lib.hid (show ∀ a, a < j + 1 → put J j JB a ≠ TB from fun a ha => by
                by_cases e : a = j
                · rw [e, put_same]; exact Ne.symm hTJ
                · rw [put_other _ _ e]; exact (HJ17.out a (by omega)).2.2)
              have HO2 := Lib.hid (HO17.out.to HO.out fun g hg hl => by simp at hg; omega)
              clear HR
              go_wp2_with fail
              exact ⟨⟨j + 1, _, by omega, by go_num, HT2, HJ2, HO2⟩, by simp [intOf]; omega⟩
        · obtain rfl : j = 13 := by omega
          have hsz := HO.out.size
          have HOw := Lib.hid (HO3.out.to HO.out fun g hg hl => by simp at hg; omega)
          go_wp2_with fail
          go_ret2
          exact ⟨TB, DP, J, rfl, HT.out, by omega, HOw.out⟩

end Go.Proofs.YtipgbbhgmoehfaaDoor
