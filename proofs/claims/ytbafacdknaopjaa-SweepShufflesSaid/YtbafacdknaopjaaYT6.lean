import Derived.Test.YtbafacdknaopjaaYE6
import Derived.Test.YtbafacdknaopjaaYQ
/-
  SweepShuffles: the walk.
-/
namespace Go.Proofs.Ytbafacdknaopjaa
open Go.RowKit
attribute [local go_sem] Oper.semAt_some
set_option linter.unusedSimpArgs false
set_option linter.unusedSectionVars false

theorem made_grown {w4 w5 w6 : World} {tmp : Obj} {T : TypeId} {size n : Nat} {v : Value} {xs : List Value} (h : Only [] w4 w5) (hown : w5.ownsRow w4.heap.size T size v n xs) (hg : (w5.alloc tmp).grownBy w6 v.ownBlock) : Only [] w4 w6 :=
  only_of_below' (below_append h.toBelow hown hg)
set_option maxRecDepth 100000 in
set_option maxHeartbeats 8000000 in
theorem sweepShuffles_walk (n : Int) (E : Option Addr) (len cap : Nat) (u v x : Nat → Int) (D : Option Addr) (dl dc : Nat) (z : Nat → Int) (w : World) (hn : (Lit.int .u8 n).wf = true) (h : TripsIn w .u8 E len u v x) (hz : IntsIn w .u64 D dl z) :
    Calls Try.prog 18 #[.int .u8 n, .slice E len cap, .slice D dl dc] w fun e w' => e = .returned (.bool true) ∧ Below w.heap.size w w' := by
  refine Calls.mono (R := fun e w' => e = .returned (.bool true) ∧ Only [] w w') ?_ fun e w' h => ⟨h.1, h.2.toBelow⟩
  obtain ⟨i0, hi, hz0, hz1, hz2⟩ := info_parts infoU64
  obtain ⟨i1, gi, gz0, gz1, gz2⟩ := info_parts infoInt
  have CD := Lib.hid (drawn_any n hn E len cap u v x w h)
  have HZ := Lib.hid hz
  have hdl := hz.len
  unfold maxLen at hdl
  clear hn h hz
  go_enter Try.func18, Try.ntmps18
  go_wp2_with fail
  refine CD.out.mono ?_
  rintro e w1 ⟨m, k, A, c, U, V, X, rfl, hm, hk, hG, hE, hO⟩
  have HG := Lib.hid hG
  have HE := Lib.hid hE
  have HO := Lib.hid hO
  obtain ⟨nd, hnd⟩ : ∃ nd, k - 1 = nd := ⟨_, rfl⟩
  have HND := Lib.hid hnd
  have hmx : max ((k : Int) - 1) 0 = (nd : Int) := by omega
  have hmk := mk_u64 nd (by omega)
  have hnd2 : nd ≤ 200 := by omega
  clear hG hE hO CD hnd
  go_wp2_with fail
  clear hmx hmk
  obtain ⟨G, hGs⟩ : ∃ G, w1.heap.size = G := ⟨_, rfl⟩
  obtain ⟨dd, hdd⟩ : ∃ dd : Nat → Nat, (fun j => if 0 < dl then (z (j % dl)).toNat else 0) = dd := ⟨_, rfl⟩
  have HDD := Lib.hid hdd
  have HU := Lib.hid (show ∀ j, dd j < 18446744073709551616 from fun j => by
    rw [← hdd]
    show (if 0 < dl then (z (j % dl)).toNat else 0) < 18446744073709551616
    split
    · rename_i h0
      have := HZ.out.wf (j % dl) (Nat.mod_lt _ h0)
      have : 0 ≤ z (j % dl) ∧ z (j % dl) ≤ 18446744073709551615 := by simpa [Lit.wf, IntKind.min, IntKind.max, IntKind.bits, IntKind.signed] using this
      omega
    · omega)
  have H0 := Lib.hid (made_rowU (g := G) (n := nd) (w := w1.alloc (.cells (madeCells #[.int .u64 0] nd) 102)) (by rw [← hGs]; exact heap_alloc_new w1 _))
  have HOa := Lib.hid ((Only.refl [] w1).alloc (.cells (madeCells #[.int .u64 0] nd) 102))
  rw [hGs]
  have HGs := Lib.hid hGs
  clear hGs hdd
  go_loopw [42] (fun i wr => ∃ t : Nat, t ≤ nd ∧ i = .int .i64 t ∧ Hid (RowU wr G nd (fun j => if j < t then dd j else 0)) ∧ Hid (Only [] w1 wr)) (fun i _ => nd - (intOf i).toNat)
  case atStart => exact ⟨0, Nat.zero_le _, rfl, Lib.hid (H0.out.congr fun i _ => by rw [if_neg (by omega)]), HOa⟩
  case round =>
    clear H0 HOa
    obtain ⟨t, ht, rfl, H1, HO1⟩ := hrel
    by_cases hlt : t < nd
    · have H2 := Lib.hid (show ∀ W, Only [] wr W → ∀ y : Nat, dd t = y → RowU (W.setCell ⟨G, t, none⟩ (.int .u64 y)) G nd (fun j => if j < t + 1 then dd j else 0) from fun W hW y hy => ((H1.out.only hW).put t y).congr fun i _ => by
        unfold Go.Proofs.Ytbafacdknaopjaa.put
        by_cases e : i = t
        · rw [if_pos e, if_pos (by omega), e, hy]
        · rw [if_neg e]
          show (if i < t then dd i else 0) = _
          by_cases e2 : i < t
          · rw [if_pos e2, if_pos (by omega)]
          · rw [if_neg e2, if_neg (by omega)])
      have HSt := Lib.hid (show ∀ W, Only [] wr W → ∀ y : Nat, Only [] w1 (W.setCell ⟨G, t, none⟩ (.int .u64 y)) from fun W hW y => (HO1.out.trans hW).to ((Only.refl [G] W).setCell (g := G) (i := t) (by simp) (.int .u64 y)) fun i hi hlt => by simp at hi; have := HGs.out; omega)
      have c1 := H1.out.cell hlt
      have z1 := H1.out.frozen t
      by_cases h0 : 0 < dl
      · obtain ⟨t', ht'⟩ : ∃ t', t % dl = t' := ⟨_, rfl⟩
        have lt' : t' < dl := ht' ▸ Nat.mod_lt _ h0
        have q1 : (t : Int) % (dl : Int) = (t' : Int) := by rw [← ht', Int.natCast_emod]
        have q2 : (t : Int).tmod (dl : Int) = (t' : Int) := by rw [Int.tmod_eq_emod_of_nonneg (by omega)]; exact q1
        have q3 : ¬ (dl : Int) = 0 := by omega
        have q4 : (0 : Int) < (dl : Int) := by omega
        obtain ⟨bz, oz, rfl, cz⟩ := (HZ.out.only (HO.out.trans HO1.out)).cell lt'
        have HY := Lib.hid (show dd t = (z t').toNat from by rw [← HDD.out]; show (if 0 < dl then (z (t % dl)).toNat else 0) = _; rw [if_pos h0, ht'])
        have hzt : z t' = ((z t').toNat : Nat) := by
          have := HZ.out.wf t' lt'
          have : 0 ≤ z t' ∧ z t' ≤ 18446744073709551615 := by simpa [Lit.wf, IntKind.min, IntKind.max, IntKind.bits, IntKind.signed] using this
          omega
        obtain ⟨y, hy⟩ : ∃ y, (z t').toNat = y := ⟨_, rfl⟩
        rw [hy] at HY hzt
        rw [hzt] at cz
        clear ht' hy hzt
        go_wp2_with fail
        exact ⟨⟨t + 1, by omega, by go_num, Lib.hid (H2.out wr (Only.refl _ _) y HY.out), Lib.hid (HSt.out wr (Only.refl _ _) y)⟩, by simp [intOf]; omega⟩
      · have hY : dd t = 0 := by rw [← HDD.out]; exact if_neg h0
        have H3 := Lib.hid (H1.out.congr (f' := fun j => if j < t + 1 then dd j else 0) fun i _ => by
          by_cases e : i = t
          · subst e
            rw [if_neg (by omega), if_pos (by omega), hY]
          · by_cases e2 : i < t
            · rw [if_pos e2, if_pos (by omega)]
            · rw [if_neg e2, if_neg (by omega)])
        have h00 : dl = 0 := by omega
        subst h00
        clear hY
        go_wp2_with fail
        exact ⟨⟨t + 1, by omega, by go_num, H3, HO1⟩, by simp [intOf]; omega⟩
    · obtain rfl : t = nd := by omega
      have HR := Lib.hid (H1.out.congr (f' := dd) fun i hi => by rw [if_pos hi])
      have HOb := Lib.hid (HO.out.trans HO1.out)
      have HE1 := Lib.hid (HE.out.only HO1.out)
      have hkn : k ≤ t + 1 := by have := HND.out; omega
      have HI := Lib.hid (HR.out.ints (fun j _ => HU.out j) (by unfold maxLen; omega))
      have CDr := Lib.hid (Draw_ok k (some ⟨G, 0, none⟩) t t (castI dd) dd wr HI.out (fun _ _ => rfl) (by omega) hkn (fun j _ => HU.out j))
      clear H1 HO1 HO HE HDD HZ hlt
      go_wp2_with fail
      refine CDr.out.mono ?_
      rintro e w2 ⟨g, rfl, hp, _, hO2⟩
      have HP2 := Lib.hid hp
      have HR2 := Lib.hid (HR.out.only hO2)
      have HE2 := Lib.hid (HE1.out.only hO2)
      have HO2 := Lib.hid (HOb.out.trans hO2)
      have CA := Lib.hid (drand_any m k t A (some ⟨G, 0, none⟩) c t U V X (castI dd) dd w2 hm hk HG.out HE2.out (HI.out.only hO2) (fun _ _ => rfl) (fun j _ => HU.out j) hkn)
      clear hp hO2 CDr HR HE1 HOb HI
      obtain ⟨f1, hf1⟩ : ∃ f1, rA m (nat U) (nat V) (sh k dd (k - 1)) one = f1 := ⟨_, rfl⟩
      obtain ⟨g1, hg1⟩ : ∃ g1, rB m (nat U) (nat V) (sh k dd (k - 1)) = g1 := ⟨_, rfl⟩
      obtain ⟨s1, hs1⟩ : ∃ s1, rC m (nat U) (nat V) (sh k dd (k - 1)) one = s1 := ⟨_, rfl⟩
      rw [hf1, hg1, hs1] at CA
      have HEQ := Lib.hid (And.intro hf1 (And.intro hg1 hs1))
      clear hf1 hg1 hs1
      go_wp2_with fail
      refine CA.out.mono ?_
      rintro e w3 ⟨A1, c1, rfl, hr, hO3⟩
      have HA1 := Lib.hid hr
      have HR3 := Lib.hid (HR2.out.only hO3)
      have HE3 := Lib.hid (HE2.out.only hO3)
      have HO3 := Lib.hid (HO2.out.trans hO3)
      have CB := Lib.hid (drows_any m k k A (some ⟨g, 0, none⟩) c k U V X (castI (sh k dd (k - 1))) w3 hm hk HG.out HE3.out ((HP2.out.only hO3 (by simp)).ints (fun j hj => by have := sh_lt dd (k - 1) (by omega) j hj; omega) (by unfold maxLen; omega)) (sh_ordered k dd) (Nat.le_refl _))
      rw [nat_castI, HEQ.out.1, HEQ.out.2.1, HEQ.out.2.2] at CB
      clear hr hO3 CA HR2 HE2 HO2 HP2
      go_wp2_with fail
      refine CB.out.mono ?_
      rintro e w4 ⟨A2, c2, rfl, hr, hO4⟩
      have HA2 := Lib.hid hr
      have HA1' := Lib.hid (HA1.out.only hO4)
      have HR4 := Lib.hid (HR3.out.only hO4)
      have HE4 := Lib.hid (HE3.out.only hO4)
      have HO4 := Lib.hid (HO3.out.trans hO4)
      obtain ⟨v5, w5, r5, hown5, hO5⟩ := copy_u64 G t t dd w4 HR4.out (by omega) 94
      have HW5 := Lib.hid hown5
      have HO5 := Lib.hid hO5
      have hsz5 : w4.heap.size ≤ w5.heap.size := hO5.size
      clear hr hO4 CB HA1 HR3 HE3 HO3 hown5 hO5
      go_wp2_with (at_builtin; first
        | refine wpList_append_of rfl _ _ 94 rfl rfl rfl r5 ?_
        | (refine wpList_append_own _ rfl _ _ 94 rfl w4.heap.size 102 i0 (.int .u64 0) 1 8 Try.underlying94 hi hz0 hz1 hz2 rfl (by decide) _ _ _ rfl (HW5.out.alloc _) ⟨w5.heap.size, 0, none⟩ 2 2 [.int .u64 7, .int .u64 9223372036854775808] rfl rfl (cell_two_new _ _ _ _) (by simp [Value.oneCell']) (by unfold maxLen; omega) (by omega) (by simp; omega) ?_; intro v6 w6 hown6 hgrow6 _; have HW6 := Lib.hid hown6; have HG6 := Lib.hid (made_grown HO5.out HW5.out hgrow6); clear hown6 hgrow6))
      obtain ⟨d6, hd6⟩ : ∃ d6 : Nat → Nat, (fun j => if j < t then dd j else if j = t then 7 else 9223372036854775808) = d6 := ⟨_, rfl⟩
      have hU6 : ∀ j, j < t + 2 → d6 j < 18446744073709551616 := fun j _ => by
        rw [← hd6]
        show (if j < t then dd j else if j = t then 7 else 9223372036854775808) < 18446744073709551616
        split
        · exact HU.out j
        · split <;> omega
      have hS6 : sh k d6 (k - 1) = sh k dd (k - 1) := sh_congr (k - 1) fun j hj => by
        rw [← hd6]
        exact if_pos (by have := HND.out; omega)
      have hW6 := HW6.out
      rw [show ([.int .u64 7, .int .u64 9223372036854775808] : List Value) = [.int .u64 ((7 : Nat) : Int), .int .u64 ((9223372036854775808 : Nat) : Int)] from rfl, ← uL_two dd t 7 9223372036854775808, hd6] at hW6
      obtain ⟨A6, c6, rfl, hI6⟩ := uints_own hW6 hU6
      have CC := Lib.hid (drand_any m k (t + 2) A A6 c c6 U V X (castI d6) d6 w6 hm hk HG.out (HE4.out.only HG6.out) hI6 (fun _ _ => rfl) hU6 (by omega))
      rw [hS6, HEQ.out.1, HEQ.out.2.1, HEQ.out.2.2] at CC
      clear r5 HW5 HW6 hW6 hI6 hU6 hS6 hd6
      refine CC.out.mono ?_
      rintro e w7 ⟨A3, c3, rfl, hr, hO7⟩
      have hq := HG6.out.trans hO7
      have HA3 := Lib.hid hr
      have HA2' := Lib.hid (HA2.out.only hq)
      have HA1 := Lib.hid (HA1'.out.only hq)
      have HR7 := Lib.hid (HR4.out.only hq)
      have HE7 := Lib.hid (HE4.out.only hq)
      have HO7 := Lib.hid (HO4.out.trans hq)
      have CS1 := Lib.hid (lsame_true A1 A2 (k + 1) c1 c2 f1 g1 s1 w7 HA1.out HA2'.out (by omega))
      clear hr hO7 hq CC HA2 HA1' HR4 HE4 HO4 HG6 HO5
      go_wp2_with fail
      refine CS1.out.mono ?_
      rintro e w8 ⟨rfl, hO8⟩
      have CS2 := Lib.hid (lsame_true A1 A3 (k + 1) c1 c3 f1 g1 s1 w8 (HA1.out.only hO8) (HA3.out.only hO8) (by omega))
      have HR8 := Lib.hid (HR7.out.only hO8)
      have HE8 := Lib.hid (HE7.out.only hO8)
      have HO8 := Lib.hid (HO7.out.trans hO8)
      clear hO8 CS1 HA1 HA2' HA3 HR7 HE7 HO7
      go_wp2_with fail
      refine CS2.out.mono ?_
      rintro e w9 ⟨rfl, hO9⟩
      have HR9 := Lib.hid (HR8.out.only hO9)
      have HE9 := Lib.hid (HE8.out.only hO9)
      have HO9 := Lib.hid (HO8.out.trans hO9)
      clear hO9 CS2 HR8 HE8 HO8
      have CF := Lib.hid (show 0 < t → ∀ (A' : Option Addr) (l c' : Nat), l + 1 = t → (0 < l → A' = some ⟨G, 1, none⟩) → Calls Try.prog 57 #[.int .i64 m, .slice A k c, .slice A' l c'] w9 fun e w' => e = .returned (.tuple #[.slice none 0 0, .int .i64 14]) ∧ Only [] w9 w' from fun h0 A' t' c' ht hA' => by
        subst ht
        exact dfew_any m k t' A A' c c' U V X (castI fun j => dd (j + 1)) (fun j => dd (j + 1)) w9 hm hk HG.out HE9.out (HR9.out.tail (fun j _ => HU.out j) (by unfold maxLen; omega) hA') (fun _ _ => rfl) (fun j _ => HU.out (j + 1)) (by have := HND.out; omega))
      rcases (show t = 0 ∨ 0 < t by omega) with h0 | h0
      have h1 : ¬ 0 < t := by omega
      have q : decide (0 < t) = false := decide_eq_false h1
      clear h0 CF
      focus go_upto_region 20 with (fail)
      clear q h1
      obtain ⟨W9, rfl⟩ : ∃ W9, W9 = w9 := ⟨_, rfl⟩
      have HRx := Lib.hid (Only.refl [] W9)
      rotate_left
      have CF := Lib.hid (CF.out h0)
      have q : decide (0 < t) = true := decide_eq_true h0
      have q3 : 1 ≤ t := h0
      clear h0
      focus go_wp2_with fail
      refine (CF.out _ _ _ ?_ ?_).mono ?_
      · omega
      · intro hl
        first | rfl | omega
      have HT1 := Lib.hid h
      clear h
      rintro e w10 ⟨rfl, hO10⟩
      have HRx := Lib.hid hO10
      clear hO10
      try clear q3
      focus go_upto_region 20 with (fail)
      try clear q
      clear CF
      obtain ⟨W9, rfl⟩ : ∃ W9, W9 = w10 := ⟨_, rfl⟩
      rotate_left
      refine (CF.out _ _ _ ?_ ?_).mono ?_
      · omega
      · intro hl
        first | rfl | omega
      clear h
      rintro e w10 ⟨rfl, hO10⟩
      have HRx := Lib.hid hO10
      clear hO10
      try clear q3
      focus go_upto_region 20 with (fail)
      try clear q
      clear CF
      obtain ⟨W9, rfl⟩ : ∃ W9, W9 = w10 := ⟨_, rfl⟩
      all_goals
        have HOW := Lib.hid (HO9.out.trans HRx.out)
        have HEw := Lib.hid (HE9.out.only HRx.out)
        clear HRx HO9 HE9 HR9
        go_wp2_with fail
        go_loopw [22, 136] (fun vl i wr => ∃ j : Nat, j ≤ k ∧ i = .int .i64 j ∧ Hid (wr.ownsRow W9.heap.size 3 1 vl j (intsL (castI id) j)) ∧ Hid (Below W9.heap.size W9 wr)) (fun _ i _ => k - (intOf i).toNat)
        case atStart => exact ⟨0, Nat.zero_le _, rfl, Lib.hid (World.ownsRow_nil _ _ _ _), Lib.hid (Below.refl _ _)⟩
        case round =>
          obtain ⟨j, hj, rfl, HRo, HB⟩ := hrel
          by_cases hlt : j < k
          · have hb := HB.out
            have hrow := HRo.out
            have hsz := hb.size
            go_wp2_with (at_builtin; refine wpList_append_own _ rfl _ _ 68 rfl W9.heap.size 3 i1 (.int .i64 0) 1 8 Try.underlying68 gi gz0 gz1 gz2 rfl (by decide) _ _ _ rfl (hrow.alloc _) ⟨_, 0, none⟩ 1 1 [.int .i64 j] rfl rfl (cell_one_new _ _ _) (by simp [Value.oneCell']) (by unfold maxLen; omega) (by omega) (by simp; omega) ?_; intro v' w1' hown' hgrow _; have HN := Lib.hid (And.intro (show w1'.ownsRow W9.heap.size 3 1 v' (j + 1) (intsL (castI id) (j + 1)) by rw [intsL_succ]; exact hown') (below_append hb hrow hgrow)); clear hown' hgrow hrow hb)
            exact ⟨⟨j + 1, by omega, by go_num, Lib.hid HN.out.1, Lib.hid HN.out.2⟩, by simp [intOf]; omega⟩
          · obtain rfl : j = k := by omega
            obtain ⟨As, cs, rfl, hIs⟩ := ints_owned3 HRo.out (fun j' hj' => wf_of (by unfold castI; omega) (by unfold castI; simp; omega))
            have HIs := Lib.hid hIs
            have HOs := Lib.hid (only_of_below' HB.out)
            have hmk := mk_u64 t (by omega)
            have hmk1 : ∀ w, (Instr.makeSlice 94 (.int .i64 1) (.int .i64 1)).run Try.prog w = .ok (.slice (some ⟨w.heap.size, 0, none⟩) 1 1) (w.alloc (.cells (madeCells #[.int .u64 0] 1) 102)) := mk_u64 1 (by omega)
            have CZ := Lib.hid (show ∀ l : Nat, j ≤ l + 1 → l ≤ 200 → Calls Try.prog 57 #[.int .i64 m, .slice A j c, .slice (some ⟨wr.heap.size, 0, none⟩) l l] (wr.alloc (.cells (madeCells #[.int .u64 0] l) 102)) fun e w' => ∃ A' c', e = .returned (.tuple #[.slice A' (j + 1) c', .int .i64 0]) ∧ EdgesIn w' A' (j + 1) (rA m (nat U) (nat V) id one) (rB m (nat U) (nat V) id) (rC m (nat U) (nat V) id one) ∧ Only [] wr w' from fun l hl hl2 => by
              have hOz := (Only.refl [] wr).alloc (.cells (madeCells #[.int .u64 0] l) 102)
              have hc := drand_any m j l A (some ⟨wr.heap.size, 0, none⟩) c l U V X (castI fun _ => 0) (fun _ => 0) _ hm hk HG.out (HEw.out.only (HOs.out.trans hOz)) ((made_rowU (heap_alloc_new wr _)).ints (fun _ _ => by omega) (by unfold maxLen; omega)) (fun _ _ => rfl) (fun _ _ => by omega) hl
              rw [sh_zero (n := j) (d := fun _ => 0) (j - 1) (fun _ _ => rfl)] at hc
              refine hc.mono ?_
              rintro e w' ⟨A', c', h1, h2, h3⟩
              exact ⟨A', c', h1, h2, hOz.trans h3⟩)
            clear hIs HRo HB hlt hj
            go_wp2_with fail
            clear hmk hmk1
            first
              | (have hT1 := HT1.out; have CZ := Lib.hid (CZ.out 1 (by omega) (by omega)); clear hT1; refine CZ.out.mono ?_)
              | refine (CZ.out t hkn (by omega)).mono ?_
            rintro e w11 ⟨A1, c1, rfl, hr, hO11⟩
            have HA1 := Lib.hid hr
            have HOt := Lib.hid hO11
            have HO11 := Lib.hid (HOW.out.trans (HOs.out.trans HOt.out))
            have CR := Lib.hid (drows_any m j j A As c cs U V X (castI id) w11 hm hk HG.out (HEw.out.only (HOs.out.trans HOt.out)) (HIs.out.only HOt.out) (id_ordered j) (Nat.le_refl _))
            rw [nat_castI] at CR
            clear hr hO11 CZ HOW HOs
            go_wp2_with fail
            refine CR.out.mono ?_
            rintro e w12 ⟨A2, c2, rfl, hr, hO12⟩
            have CS := Lib.hid (lsame_true A1 A2 (j + 1) c1 c2 _ _ _ w12 (HA1.out.only hO12) hr (by omega))
            have HO12 := Lib.hid (HO11.out.trans hO12)
            clear hr hO12 CR HA1 HIs HO11 HOt
            go_wp2_with fail
            refine CS.out.mono ?_
            rintro e w13 ⟨rfl, hO13⟩
            have HO13 := Lib.hid (HO12.out.trans hO13)
            clear hO13 CS HO12
            go_wp2_with fail
            refine (sworks_any _).mono ?_
            rintro e w14 ⟨rfl, hO14⟩
            have HO14 := Lib.hid (HO13.out.trans hO14)
            clear hO14 HO13
            go_wp2_with fail
            go_ret
            exact ⟨rfl, HO14.out⟩

end Go.Proofs.Ytbafacdknaopjaa
