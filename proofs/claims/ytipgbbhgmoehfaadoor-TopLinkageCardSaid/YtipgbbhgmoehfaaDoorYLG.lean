import Derived.Test.YtipgbbhgmoehfaaDoorYLF
/-
  lift.depths: the walk.
-/
namespace Go.Proofs.YtipgbbhgmoehfaaDoor
open Go.RowKit
attribute [local go_sem] Oper.semAt_some
set_option linter.unusedSimpArgs false
set_option linter.unusedVariables false
set_option linter.unusedSectionVars false

theorem owns_weak {W : World} {b b' : Nat} {e : TypeId} {size n : Nat} {v : Value} {xs : List Value} (h : W.ownsRow b e size v n xs) (hb : b' ≤ b) : W.ownsRow b' e size v n xs := by
  obtain ⟨hl, h0 | ⟨g', cap, cur, hv, hg, rest⟩⟩ := h
  · exact ⟨hl, .inl h0⟩
  · exact ⟨hl, .inr ⟨g', cap, cur, hv, Nat.le_trans hb hg, rest⟩⟩
theorem Kids.rowk {W W' : World} {CH DP s base : Nat} {vs : Nat → Value} {K : Nat → List Nat} {vq : Value} {Q : List Nat} {f : Nat → Int} {y : Nat} {tmp : Obj} (h : Kids W CH DP s base vs K vq Q f) (hy : y < s) (hg : (W.alloc tmp).grownBy W' (vs y).ownBlock) : RowGe W' CH 31 s vs := by
  refine h.row.kept ?_
  exact (hg.block _ (by have := h.row.ltb; rw [World.size_alloc]; omega) (fun e => by have := ((h.own y hy).lt _ e.symm).1; have := h.chb; omega)).trans (heap_alloc_old _ _ h.row.ltb)
theorem BF.all {par : Nat → Int} {s : Nat} {L : List Nat} (hu : Up par s) (h : BF par s L.length L) {x : Nat} (hx : x < s) : x ∈ L :=
  sub_all (S := List.range s) h.nodup (fun i hi => List.mem_range.2 (h.lt i hi)) (by rw [List.length_range]; exact Nat.le_of_eq (h.whole hu).symm) x (List.mem_range.2 hx)
def depI (par : Nat → Int) (s : Nat) (L : List Nat) : Nat → Int := fun x => if x ∈ L then ((dep par s x : Nat) : Int) else 0
theorem depI_next {par : Nat → Int} {s v c j : Nat} {L : List Nat} (hu : Up par s) (hc : (kidsTo par v s)[j]? = some c) :
    ∀ i, i < s → (if i = c then (((dep par s v : Nat) : Int) + 1) else depI par s (L ++ (kidsTo par v s).take j) i) = depI par s (L ++ (kidsTo par v s).take (j + 1)) i := by
  intro i hi
  have hm := kids_mem.1 (List.mem_of_getElem? hc)
  have e1 : (kidsTo par v s).take (j + 1) = (kidsTo par v s).take j ++ [c] := by rw [List.take_add_one, hc]; rfl
  unfold depI
  rw [e1, ← List.append_assoc]
  by_cases e : i = c
  · subst e
    rw [if_pos rfl, if_pos (List.mem_append_right _ (List.mem_singleton.2 rfl)), dep_kid hu hm.1 hm.2]
    omega
  · rw [if_neg e]
    by_cases h2 : i ∈ L ++ (kidsTo par v s).take j
    · rw [if_pos h2, if_pos (List.mem_append_left _ h2)]
    · rw [if_neg h2, if_neg (fun h3 => by
        rcases List.mem_append.1 h3 with h4 | h4
        · exact h2 h4
        · exact e (List.mem_singleton.1 h4))]

def DepthsPost (w : World) (s : Nat) (par : Nat → Int) (e : Ending) (w' : World) : Prop := ∃ DP, e = .returned (.tuple #[.slice (some ⟨DP, 0, none⟩) s s, .bool true]) ∧ RowZ w' 3 DP s (fun x => ((dep par s x : Nat) : Int)) ∧ w.heap.size ≤ DP ∧ Only [] w w'

set_option maxRecDepth 100000 in
set_option maxHeartbeats 4000000 in
theorem depths_any {w : World} (P s : Nat) (par : Nat → Int) (h : RowZ w 3 P s par) (hu : Up par s) (hs : s ≤ 8192) : Calls Tryd.prog 28 #[.slice (some ⟨P, 0, none⟩) s s] w (DepthsPost w s par) := by
  obtain ⟨i1, gi, gz0, gz1, gz2⟩ := info_parts infoInt
  have hmk1 := mk_lists s (by omega) w
  have hmk2 := mk_ints s (by omega) (w.alloc (.cells (madeCells #[.slice none 0 0] s) 31))
  have HP := Lib.hid h
  have HU := Lib.hid hu
  clear h hu
  go_enter Tryd.func28, Tryd.ntmps28
  go_upto_region 4 with (fail)
  obtain ⟨W2, hW2⟩ : ∃ W2, (w.alloc (.cells (madeCells #[.slice none 0 0] s) 31)).alloc (.cells (madeCells #[.int .i64 0] s) 3) = W2 := ⟨_, rfl⟩
  have HK0 := Lib.hid (show Kids W2 w.heap.size (w.heap.size + 1) s (w.heap.size + 2) (fun _ => .slice none 0 0) (fun p => kidsTo par p 0) (.slice none 0 0) (rootsOf par 0) (fun _ => 0) by
    subst hW2
    have k1 : (w.alloc (.cells (madeCells #[.slice none 0 0] s) 31)).heap[w.heap.size]? = _ := heap_alloc_new w _
    have k2 := heap_alloc_new (w.alloc (.cells (madeCells #[.slice none 0 0] s) 31)) (.cells (madeCells #[.int .i64 0] s) 3)
    rw [World.size_alloc] at k2
    have k3 := (heap_alloc_old (w.alloc (.cells (madeCells #[.slice none 0 0] s) 31)) (.cells (madeCells #[.int .i64 0] s) 3) (by rw [World.size_alloc]; omega)).trans k1
    exact ⟨made_lists k3, fun p _ => World.ownsRow_nil _ _ _ _, fun _ _ _ _ _ => .inl rfl, fun _ _ => .inl rfl, World.ownsRow_nil _ _ _ _, made_rowZ k2, by omega, by omega, by omega⟩)
  have HO0 := Lib.hid (show Only [] w W2 from hW2 ▸ (((Only.refl [] w).alloc _).alloc _))
  try rw [World.size_alloc]
  rw [hW2]
  obtain ⟨CH, hCH⟩ : ∃ CH, w.heap.size = CH := ⟨_, rfl⟩
  rw [hCH] at HK0 ⊢
  obtain ⟨DP, hDP⟩ : ∃ DP, CH + 1 = DP := ⟨_, rfl⟩
  rw [show CH + 2 = DP + 1 by omega, hDP] at HK0
  rw [hDP]
  have HC := Lib.hid (And.intro hCH hDP)
  clear hmk1 hmk2 hW2 hCH hDP
  go_wp2_with fail
  go_loopw [7, 22] (fun q y wr => ∃ (i : Nat) (vs : Nat → Value), i ≤ s ∧ y = .int .i64 i ∧ Hid (Kids wr CH DP s (DP + 1) vs (fun p => kidsTo par p i) q (rootsOf par i) (fun _ => 0)) ∧ Hid (Only [] w wr)) (fun _ y _ => s - (intOf y).toNat)
  case atStart => exact ⟨0, _, Nat.zero_le _, rfl, HK0, HO0⟩
  case round =>
    clear HK0 HO0
    obtain ⟨i, vs, hi, rfl, HK, HO⟩ := hrel
    by_cases hlt : i < s
    · have c1 := (HP.out.only HO.out (by simp)).cell hlt
      have hdl := HK.out.dep.lt
      rcases HU.out i hlt with e | ⟨y, e, hy1, hy⟩
      · rw [e] at c1
        have hql : (rootsOf par i).length ≤ i := Nat.le_trans (List.length_filter_le _ _) (by rw [List.length_range]; exact Nat.le_refl _)
        have HQ := Lib.hid HK.out.que
        have HR := Lib.hid (rootsOf_succ par i)
        have HE := Lib.hid e
        clear e
        go_wp2_with (at_builtin; refine wpList_append_own_at _ rfl _ _ 31 rfl (DP + 1) 3 i1 (.int .i64 0) 1 8 Tryd.underlying31 gi gz0 gz1 gz2 rfl (by decide) _ _ _ rfl (HQ.out.alloc _) ⟨_, 0, none⟩ 1 1 [.int .i64 i] rfl rfl (cell_one_new _ _ _) (by simp [Value.oneCell']) (by unfold maxLen; omega) (by omega) (by simp; omega) ?_; intro v' w1' hown' hgrow _ hat; have HN := Lib.hid (HK.out.push hown' hgrow hat); have HO' := Lib.hid (only_grown HO.out (owns_weak HQ.out (show w.heap.size ≤ DP + 1 by have := HC.out; omega)) hgrow); clear hown' hgrow hat)
        exact ⟨⟨i + 1, vs, by omega, by go_num, Lib.hid (HN.out.congr (fun p hp => by
          rw [kids_succ, if_neg (by rw [HE.out]; omega), List.append_nil]) (by rw [HR.out, if_pos (by rw [HE.out]; omega)]) (fun _ _ => rfl)), HO'⟩, by simp [intOf]; omega⟩
      · rw [e] at c1
        have k1 := HK.out.row.cellv hy
        obtain ⟨A, c, hv⟩ := owns_slice (HK.out.own y hy)
        have hql : (kidsTo par y i).length ≤ i := Nat.le_trans (List.length_filter_le _ _) (by rw [List.length_range]; exact Nat.le_refl _)
        have HQ := Lib.hid (HK.out.own y hy)
        have HG := Lib.hid (fun (W' : World) (tmp : Obj) (hg : (wr.alloc tmp).grownBy W' (vs y).ownBlock) => HK.out.rowk hy hg)
        have HA := Lib.hid (fun (W' : World) (tmp : Obj) (v' : Value) => HK.out.add (W' := W') (tmp := tmp) (v' := v') (x := i) hy)
        rw [hv] at k1
        simp only [hv] at HQ HG HA
        have HE := Lib.hid e
        have q1 : ¬ ((y : Int) < 0) := by omega
        clear e hv
        go_wp2_with (at_builtin; refine wpList_append_own_at _ rfl _ _ 31 rfl (DP + 1) 3 i1 (.int .i64 0) 1 8 Tryd.underlying31 gi gz0 gz1 gz2 rfl (by decide) _ _ _ rfl (HQ.out.alloc _) ⟨_, 0, none⟩ 1 1 [.int .i64 i] rfl rfl (cell_one_new _ _ _) (by simp [Value.oneCell']) (by unfold maxLen; omega) (by omega) (by simp; omega) ?_; intro v' w1' hown' hgrow _ hat; have HN := Lib.hid (HA.out _ _ _ hown' hgrow hat); have HO' := Lib.hid ((only_grown HO.out (owns_weak HQ.out (show w.heap.size ≤ DP + 1 by have := HC.out; omega)) hgrow).to ((Only.refl [CH] w1').setCell (g := CH) (i := y) (by simp) v') (fun g hg hl => by have := HC.out; simp at hg; omega)); have k2 := (HG.out _ _ hgrow).cellv hy; have z2 := (HG.out _ _ hgrow).fz y; obtain ⟨A', c', rfl⟩ := owns_slice hown'; clear hown' hgrow hat)
        exact ⟨⟨i + 1, _, by omega, by go_num, Lib.hid (HN.out.congr (fun p hp => by
          rw [kids_succ, HE.out]
          by_cases e : p = y
          · subst e; rw [if_pos rfl, if_pos rfl]
          · rw [if_neg e, if_neg (by omega), List.append_nil]) (by rw [rootsOf_succ, if_neg (by rw [HE.out]; omega), List.append_nil]) (fun _ _ => rfl)), HO'⟩, by simp [intOf]; omega⟩
    · obtain rfl : i = s := by omega
      have HK1 := Lib.hid (HK.out.congr (f' := depI par i (rootsOf par i)) (fun p hp => rfl) rfl (fun x hx => by
        unfold depI
        split
        · rename_i hm
          rw [dep_root (rootsOf_mem.1 hm).2]; rfl
        · rfl))
      have HBF := Lib.hid (BF.start par i)
      clear HK hlt hi
      go_wp2_with fail
      rename World => W5
      go_loopw [7, 10] (fun q y wr => ∃ (t : Nat) (L : List Nat), t ≤ i ∧ y = .int .i64 t ∧ Hid (BF par i t L) ∧ Hid (Kids wr CH DP i (DP + 1) vs (fun p => kidsTo par p i) q L (depI par i L)) ∧ Hid (Only [] w wr)) (fun _ y _ => i - (intOf y).toNat)
      case atStart => exact ⟨0, _, Nat.zero_le _, rfl, HBF, HK1, HO⟩
      case round =>
        clear HBF HK1 HO
        obtain ⟨t, L, ht, rfl, HB, HK, HO⟩ := hrel
        obtain ⟨A, c, hA⟩ := owns_slice HK.out.que
        subst hA
        have hls := HB.out.short
        have htl := HB.out.le
        obtain ⟨len, hlen⟩ : ∃ len, L.length = len := ⟨_, rfl⟩
        have hown := HK.out.que
        rw [hlen] at hown hls htl ⊢
        by_cases hlt : t < len
        · obtain ⟨x, hx⟩ : ∃ x, L[t]? = some x := ⟨L[t]'(by omega), List.getElem?_eq_getElem (by omega)⟩
          obtain ⟨b, off, rfl, c1⟩ := (owns_nat HK.out.que).2 t x hx
          have hxs := HB.out.lt x (List.mem_of_getElem? hx)
          have k1 := HK.out.row.cellv hxs
          obtain ⟨A2, cc, hv⟩ := owns_slice (HK.out.own x hxs)
          rw [hv] at k1
          have HV := Lib.hid hv
          have HBN := Lib.hid (HB.out.next hx)
          have hsn := HBN.out.short
          rw [List.length_append] at hsn
          have HX := Lib.hid hx
          have HLe := Lib.hid hlen
          obtain ⟨kl, hkl⟩ : ∃ kl, (kidsTo par x i).length = kl := ⟨_, rfl⟩
          rw [hkl] at k1 hsn
          have HKl := Lib.hid hkl
          rw [hlen] at hsn HK
          have hxL := List.mem_of_getElem? hx
          have HXL := Lib.hid hxL
          clear hv hx hkl hlen hown hxL
          go_wp2_with fail
          rename World => W9
          go_loopw [7, 59] (fun q y wr => ∃ j : Nat, j ≤ kl ∧ y = .int .i64 j ∧ Hid (Kids wr CH DP i (DP + 1) vs (fun p => kidsTo par p i) q (L ++ (kidsTo par x i).take j) (depI par i (L ++ (kidsTo par x i).take j))) ∧ Hid (Only [] w wr)) (fun _ y _ => kl - (intOf y).toNat)
          case atStart => exact ⟨0, Nat.zero_le _, rfl, Lib.hid (HK.out.congr (fun _ _ => rfl) (by rw [List.take_zero, List.append_nil]) (fun k _ => by rw [List.take_zero, List.append_nil])), HO⟩
          case round =>
            clear HK HO HB
            obtain ⟨j, hj, rfl, HK, HO⟩ := hrel
            by_cases hjl : j < kl
            · obtain ⟨y, hy⟩ : ∃ y, (kidsTo par x i)[j]? = some y := ⟨(kidsTo par x i)[j]'(by rw [HKl.out]; exact hjl), List.getElem?_eq_getElem (by rw [HKl.out]; exact hjl)⟩
              have hm := kids_mem.1 (List.mem_of_getElem? hy)
              have hown := HK.out.own x hxs
              rw [HV.out] at hown
              obtain ⟨b2, off2, hA2, c2⟩ := (owns_nat hown).2 j y hy
              subst hA2
              have d1 := HK.out.dep.cell hxs
              rw [show depI par i (L ++ (kidsTo par x i).take j) x = ((dep par i x : Nat) : Int) from if_pos (List.mem_append_left _ HXL.out)] at d1
              have d2 := HK.out.dep.cell hm.1
              have z2 := HK.out.dep.frozen y
              have hdl := dep_lt HU.out (i - x) x hxs (Nat.le_refl _)
              have hyi := hm.1
              have HNx := Lib.hid (depI_next (L := L) HU.out hy)
              have htk : (kidsTo par x i).take (j + 1) = (kidsTo par x i).take j ++ [y] := by rw [List.take_add_one, hy]; rfl
              have HTk := Lib.hid htk
              have hlq : (L ++ (kidsTo par x i).take j).length ≤ i := by
                rw [List.length_append, List.length_take, HLe.out, HKl.out]
                omega
              have HD := Lib.hid (HK.out.deep y (((dep par i x : Nat) : Int) + 1))
              have hdp := HK.out.dep.lt
              have HO2 := Lib.hid (HO.out.to ((Only.refl [DP] _).setCell (g := DP) (i := y) (by simp) (.int .i64 (((dep par i x : Nat) : Int) + 1))) (fun g hg hl => by have := HC.out; simp at hg; omega))
              obtain ⟨v0, hv0⟩ : ∃ v0, depI par i (L ++ (kidsTo par x i).take j) y = v0 := ⟨_, rfl⟩
              rw [hv0] at d2
              obtain ⟨dx, hdx⟩ : ∃ dx, dep par i x = dx := ⟨_, rfl⟩
              rw [hdx] at d1 hdl HD HO2 HNx
              obtain ⟨lq, hlqe⟩ : ∃ lq, (L ++ (kidsTo par x i).take j).length = lq := ⟨_, rfl⟩
              have HQ := Lib.hid HD.out.que
              rw [hlqe] at hlq HQ
              have HLq := Lib.hid hlqe
              clear HK HO hy hm hown htk hv0 hdx hlqe
              have HCn := Lib.hid (cell_one_new (wr.setCell ⟨DP, y, none⟩ (.int .i64 ((dx : Int) + 1))) (.int .i64 (y : Int)) 3)
              rw [World.size_setCell] at HCn
              go_wp2_with (at_builtin; refine wpList_append_own_at _ rfl _ _ 31 rfl (DP + 1) 3 i1 (.int .i64 0) 1 8 Tryd.underlying31 gi gz0 gz1 gz2 rfl (by decide) _ _ _ rfl (HQ.out.alloc _) ⟨_, 0, none⟩ 1 1 [.int .i64 y] rfl rfl HCn.out (by simp [Value.oneCell']) (by unfold maxLen; omega) (by omega) (by rw [World.size_alloc, World.size_setCell]; omega) ?_; intro v' w1' hown' hgrow _ hat; have HN := Lib.hid (HD.out.push (x := y) (by rw [HLq.out]; exact hown') hgrow hat); have HO' := Lib.hid (only_grown HO2.out (owns_weak HQ.out (show w.heap.size ≤ DP + 1 by have := HC.out; omega)) hgrow); clear hown' hgrow hat)
              exact ⟨⟨j + 1, by omega, by go_num, Lib.hid (HN.out.congr (fun _ _ => rfl) (by rw [HTk.out, List.append_assoc]) HNx.out), HO'⟩, by simp [intOf]; omega⟩
            · obtain rfl : j = kl := by omega
              have hall : (kidsTo par x i).take j = kidsTo par x i := by rw [← HKl.out, List.take_length]
              have HK2 := Lib.hid (HK.out.congr (Q' := L ++ kidsTo par x i) (f' := depI par i (L ++ kidsTo par x i)) (fun _ _ => rfl) (by rw [hall]) (fun _ _ => by rw [hall]))
              clear HK hall
              go_wp2_with fail
              exact ⟨⟨t + 1, _, by omega, by go_num, HBN, HK2, HO⟩, by simp [intOf]; omega⟩
        · obtain rfl : t = len := by omega
          have hB := HB.out
          rw [← hlen] at hB
          have hw := hB.whole HU.out
          have htw : t = i := by omega
          subst htw
          have HD := Lib.hid (HK.out.dep.congr (f' := fun x => ((dep par t x : Nat) : Int)) fun x hx => if_pos (hB.all HU.out hx))
          clear hB hw HB HK hlen hown hls htl ht hlt
          go_wp2_with fail
          go_ret2
          exact ⟨DP, rfl, HD.out, by have := HC.out; omega, HO.out⟩

end Go.Proofs.YtipgbbhgmoehfaaDoor
