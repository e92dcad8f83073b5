import Derived.StillTailTactics
import Derived.Test.YtbafacdknaopjaaYE8
import Derived.Test.YtbafacdknaopjaaYM4
import Derived.Test.YtbafacdknaopjaaYQ
import Derived.Test.YtbafacdknaopjaaYU2
/-
  SweepEnds: the walk.
-/
namespace Go.Proofs.Ytbafacdknaopjaa
open Go.RowKit
attribute [local go_sem] Oper.semAt_some
set_option linter.unusedSimpArgs false
set_option linter.unusedSectionVars false

set_option maxRecDepth 100000 in
set_option maxHeartbeats 8000000 in
theorem sweepEnds_walk (n : Int) (E : Option Addr) (len cap : Nat) (u v x : Nat → Int) (P : Option Addr) (pl pc : Nat) (z : Nat → Int) (wh : Int) (w : World) (hn : (Lit.int .u8 n).wf = true) (h : TripsIn w .u8 E len u v x) (hz : IntsIn w .u16 P pl z) (hwh : (Lit.int .u16 wh).wf = true) :
    Calls Try.prog 24 #[.int .u8 n, .slice E len cap, .slice P pl pc, .int .u16 wh] w fun e w' => e = .returned (.bool true) ∧ Below w.heap.size w w' := by
  refine Calls.mono (R := fun e w' => e = .returned (.bool true) ∧ Only [] w w') ?_ fun e w' h => ⟨h.1, h.2.toBelow⟩
  obtain ⟨i1, gi, gz0, gz1, gz2⟩ := info_parts infoEdge
  obtain ⟨i2, hi, hz0, hz1, hz2⟩ := info_parts infoInt
  have CD := Lib.hid (drawn_any n hn E len cap u v x w h)
  have HZ := Lib.hid hz
  obtain ⟨wn, rfl, hwn⟩ := short_nat hwh
  clear hn h hz hwh
  go_enter Try.func24, Try.ntmps24
  go_wp2_with fail
  refine CD.out.mono ?_
  rintro e w1 ⟨m, k, A, c, U, V, X, rfl, hm, hk, hG, hE, hO⟩
  have CP := Lib.hid (picked_cap k hk P pl pc z w1 (HZ.out.only hO))
  have HG := Lib.hid hG
  have HE := Lib.hid hE
  have HO := Lib.hid hO
  clear hG hE hO CD
  go_wp2_with fail
  refine CP.out.mono ?_
  rintro e w2 ⟨r, O, co, fo, rfl, hI, ho, hO2, hco, hco2⟩
  have hr := ho.short
  have CR := Lib.hid (drows_cap m k r A O c co U V X fo w2 hm hk HG.out (HE.out.only hO2) hI ho hr)
  have HO2 := Lib.hid (HO.out.trans hO2)
  have HL := Lib.hid (drawn_ends HG.out ho)
  have HI2 := Lib.hid hI
  have HE2 := Lib.hid (HE.out.only hO2)
  have Ho := Lib.hid ho
  clear hI ho hO2 CP HO HE
  go_wp2_with fail
  refine CR.out.mono ?_
  rintro e w3 ⟨A', c', rfl, hR, hO3, hc1, hc2⟩
  have HO3 := Lib.hid (HO2.out.trans hO3)
  have HR3 := Lib.hid hR
  have HI3 := Lib.hid (HI2.out.only hO3)
  have HE3 := Lib.hid (HE2.out.only hO3)
  clear hR hO3 CR HO2 HI2 HE2 HZ
  unfold maxLen at hco2 hc2
  obtain ⟨d, hd⟩ : ∃ d, wn % (r + 1) = d := ⟨_, rfl⟩
  have hdr : d ≤ r := by have := Nat.mod_lt wn (show 0 < r + 1 by omega); omega
  have q0 : ¬ (r : Int) + 1 = 0 := by omega
  have q1 : (wn : Int) % ((r : Int) + 1) = (d : Int) := by rw [← hd, Int.natCast_emod]; rfl
  have q2 : (wn : Int).tmod ((r : Int) + 1) = (d : Int) := by rw [Int.tmod_eq_emod_of_nonneg (by omega)]; exact q1
  have hr2 : r ≤ 200 := by omega
  clear hd
  go_wp2_with fail
  clear q0 q1 q2
  go_loopw [15, 16] (fun va i wr => ∃ j : Nat, j ≤ d ∧ i = .int .i64 j ∧ Hid (wr.ownsRow w3.heap.size 70 3 va j (edgesL (fun i => U (nat fo i)) (fun i => V (nat fo i)) (fun i => X (nat fo i)) j)) ∧ Hid (Below w3.heap.size w3 wr)) (fun _ i _ => d - (intOf i).toNat)
  case atStart => exact ⟨0, Nat.zero_le _, rfl, Lib.hid (World.ownsRow_nil _ _ _ _), Lib.hid (Below.refl _ _)⟩
  case round =>
    obtain ⟨j, hj, rfl, HR, HB⟩ := hrel
    by_cases hlt : j < d
    ·
      as_aux_lemma =>
        have hb := HB.out
        have hrow := HR.out
        have hsz := hb.size
        have hjr : j < r := by omega
        obtain ⟨bo, oo, rfl, co1⟩ := (HI3.out.only (only_of_below' hb)).cell hjr
        obtain ⟨f0, f1⟩ := Ho.out.1 j hjr
        obtain ⟨a, ha⟩ : ∃ a : Nat, fo j = a := ⟨(fo j).toNat, by omega⟩
        have hak : a < k := by omega
        have hna : nat fo j = a := by unfold nat; omega
        rw [ha] at co1
        obtain ⟨b, off, rfl, hbl, e0, e1, e2⟩ := (HE3.out.only (only_of_below' hb)).cell hak
        obtain ⟨ya, hya⟩ : ∃ ya, U a = ya := ⟨_, rfl⟩
        obtain ⟨yb, hyb⟩ : ∃ yb, V a = yb := ⟨_, rfl⟩
        obtain ⟨yc, hyc⟩ : ∃ yc, X a = yc := ⟨_, rfl⟩
        rw [hya] at e0
        rw [hyb] at e1
        rw [hyc] at e2
        have HQ := Lib.hid (show edgesL (fun i => U (nat fo i)) (fun i => V (nat fo i)) (fun i => X (nat fo i)) (j + 1) = edgesL (fun i => U (nat fo i)) (fun i => V (nat fo i)) (fun i => X (nat fo i)) j ++ [.int .i64 ya, .int .i64 yb, .int .i64 yc] by
          rw [edgesL_succ]
          rw [hna, hya, hyb, hyc])
        clear hya hyb hyc ha hna f0 f1
        go_wp2_with (at_builtin; refine wpList_append_own _ rfl _ _ 67 rfl w3.heap.size 70 i1 (.agg #[.int .i64 0, .int .i64 0, .int .i64 0]) 3 24 Try.underlying67 gi gz0 gz1 gz2 rfl (by decide) _ _ _ rfl (hrow.alloc _) ⟨wr.heap.size, 0, none⟩ 1 1 [.int .i64 ya, .int .i64 yb, .int .i64 yc] rfl rfl (cell_three_new _ _ _ _ _) (by simp [Value.oneCell']) (by unfold maxLen; omega) (by omega) (by simp; omega) ?_; intro v' w1' hown' hgrow _; have HN := Lib.hid (And.intro (show w1'.ownsRow w3.heap.size 70 3 v' (j + 1) (edgesL (fun i => U (nat fo i)) (fun i => V (nat fo i)) (fun i => X (nat fo i)) (j + 1)) by rw [HQ.out]; exact hown') (below_append hb hrow hgrow)); clear hown' hgrow hrow hb)
        exact ⟨⟨j + 1, by omega, by go_num, Lib.hid HN.out.1, Lib.hid HN.out.2⟩, by simp [intOf]; omega⟩
    · obtain rfl : j = d := by omega
      obtain ⟨As, cs, rfl, hS⟩ := edges_own HR.out (fun i hi => HE3.out.wf _ (by have := Ho.out.1 i (by omega); unfold nat; omega))
      have hOs := only_of_below' HB.out
      have HS := Lib.hid hS
      have HE4 := Lib.hid (HE3.out.only hOs)
      have HI4 := Lib.hid (HI3.out.only hOs)
      have HR4 := Lib.hid (HR3.out.only hOs)
      have HO4 := Lib.hid (HO3.out.trans hOs)
      have hGs : GoodD m (fun i => U (nat fo i)) (fun i => V (nat fo i)) (fun i => X (nat fo i)) j := fun i hi => HG.out (nat fo i) (by have := Ho.out.1 i (by omega); unfold nat; omega)
      have CN := Lib.hid (GNew_any m As j cs _ _ _ wr hS 0 (hGs.code hm (by omega)))
      clear hS hOs HR HB HE3 HI3 HR3 HO3 hGs hlt hj
      go_wp2_with fail
      refine CN.out.mono ?_
      rintro e w5 ⟨hO5, ⟨h0, _⟩ | ⟨_, G, Sx, Lx, Ax, cx, fs, rfl, HBl⟩⟩
      · exact absurd rfl h0
      have HGa := Lib.hid (show GAt w5 G m j _ _ _ from ⟨Sx, Lx, Ax, cx, HBl.out.1.head, HBl.out.2⟩)
      have hCR := Lib.hid (drows_cap m k j A O c co U V X fo w5 hm hk HG.out (HE4.out.only hO5) ((HI4.out.only hO5).front hdr) (Ho.out.pre hdr) (by omega))
      have HE5 := Lib.hid (HE4.out.only hO5)
      have HI5 := Lib.hid (HI4.out.only hO5)
      have HR5 := Lib.hid (HR4.out.only hO5)
      have HO5 := Lib.hid (HO4.out.trans hO5)
      have hjco : j ≤ co := by omega
      clear hO5 CN HS HE4 HI4 HR4 HO4 HBl
      go_wp2_with fail
      refine hCR.out.mono ?_
      rintro e w6 ⟨A2, c2, rfl, h2, hO6, hc3, hc4⟩
      unfold maxLen at hc4
      have HR6 := Lib.hid (HR5.out.only hO6)
      have HE6 := Lib.hid (HE5.out.only hO6)
      have HI6 := Lib.hid (HI5.out.only hO6)
      have HO6 := Lib.hid (HO5.out.trans hO6)
      have HA2 := Lib.hid h2
      have hpq : ∀ i, i < j → U (nat fo i) = nat U (nat fo i) ∧ V (nat fo i) = nat V (nat fo i) ∧ nat U (nat fo i) < m ∧ nat V (nat fo i) < m := fun i hi => by
        have h1 := HL.out i (by omega)
        have h2 := (HG.out (nat fo i) (by have := Ho.out.1 i (by omega); unfold nat; omega)).1
        unfold GoodE InE at h2
        exact ⟨(Int.toNat_of_nonneg (by omega)).symm, (Int.toNat_of_nonneg (by omega)).symm, h1.1, h1.2⟩
      have CGr := Lib.hid (fun W (hW : Only [] w6 W) => show Calls Try.prog 69 #[.pointer (some ⟨G, 0, none⟩)] W fun e w' => e = .returned (.agg #[.int .i64 (rA m (nat U) (nat V) (nat fo) one j), .int .i64 (rB m (nat U) (nat V) (nat fo) j), .int .i64 (rC m (nat U) (nat V) (nat fo) one j)]) ∧ Only [] W w' from by
        have := GRow_any (p := fun i => nat U (nat fo i)) (q := fun i => nat V (nat fo i)) (HGa.out.only (hO6.trans hW)) (by omega) hpq
        rw [labK_sel] at this
        exact this)
      obtain ⟨f, hf⟩ : ∃ f, rA m (nat U) (nat V) (nat fo) one = f := ⟨_, rfl⟩
      obtain ⟨g, hg⟩ : ∃ g, rB m (nat U) (nat V) (nat fo) = g := ⟨_, rfl⟩
      obtain ⟨s, hs⟩ : ∃ s, rC m (nat U) (nat V) (nat fo) one = s := ⟨_, rfl⟩
      rw [hf, hg, hs] at CGr HR6 HA2
      have HEQ := Lib.hid (And.intro hf (And.intro hg hs))
      obtain ⟨bR, oR, rfl, hbR, _, _, _⟩ := HR6.out.cell (j := j) (by omega)
      have HRc := Lib.hid (show ∀ W, Only [] w6 W → W.cell? ⟨bR, oR + j * 3, none⟩ = some (.int .i64 (f j)) ∧ W.cell? ⟨bR, oR + j * 3 + 1, none⟩ = some (.int .i64 (g j)) ∧ W.cell? ⟨bR, oR + j * 3 + 2, none⟩ = some (.int .i64 (s j)) from fun W hW => by
        obtain ⟨b', o', hA, _, g0, g1, g2⟩ := (HR6.out.only hW).cell (j := j) (by omega)
        cases hA
        exact ⟨g0, g1, g2⟩)
      have CSm := Lib.hid (fun W (hW : Only [] w6 W) => lsame_true A2 (some ⟨bR, oR, none⟩) (j + 1) c2 c' f g s W (HA2.out.only hW) ((HR6.out.only hW).front (by omega)) (by omega))
      obtain ⟨fj, hfj⟩ : ∃ fj, f j = fj := ⟨_, rfl⟩
      obtain ⟨gj, hgj⟩ : ∃ gj, g j = gj := ⟨_, rfl⟩
      obtain ⟨sj, hsj⟩ : ∃ sj, s j = sj := ⟨_, rfl⟩
      rw [hfj, hgj, hsj] at CGr HRc
      obtain ⟨e0, e1, e2⟩ := HRc.out w6 (Only.refl _ _)
      have q1 : (fj != fj) = false := by simp
      have q2 : (gj != gj) = false := by simp
      have q3 : (sj != sj) = false := by simp
      have hjr1 : j < r + 1 := by omega
      have hjc : j + 1 ≤ c' := by omega
      have wj : IntKind.i64.wrap ((j : Int) + 1) = (j : Int) + 1 := IntWalk.i64_in _ (by omega)
      have i0 : (0 : Int) ≤ (j : Int) := by omega
      have i3 : (j : Int) < (r : Int) + 1 := by omega
      have lk3 : ((j : Int) + 1).toNat = j + 1 := by omega
      have lk5 : (j : Int) + 1 ≤ (c' : Int) := by omega
      have lk6 : (0 : Int) ≤ (j : Int) + 1 := by omega
      have hq0 : ((0 : Int) != 0) = false := by simp
      clear h2 hO6 hCR HR5 HE5 HI5 HO5 hpq hf hg hs hfj hgj hsj HA2
      go_wp2_with fail
      go_region_held3 (fun w' => w'.cell? ⟨bR, oR + j * 3, none⟩ = some (.int .i64 fj) ∧ w'.cell? ⟨bR, oR + j * 3 + 1, none⟩ = some (.int .i64 gj) ∧ w'.cell? ⟨bR, oR + j * 3 + 2, none⟩ = some (.int .i64 sj)) (first | exact ⟨e0, e1, e2⟩ | exact e0 | exact e1 | exact e2 | exact hS8 | exact hS7 | exact hS8.1 | exact hS8.2.1 | exact hS8.2.2 | exact hS7.1 | exact hS7.2.1 | exact hS7.2.2)
        ((first
          | (go_at_call 69; refine (CGr.out _ ?_).mono ?_; (first | exact Only.refl _ _ | exact (Only.refl _ _).drewN 1); rintro e w7 ⟨rfl, hO7⟩; have HO7 := Lib.hid (((Only.refl [] w6).drewN 1).trans hO7); have hS7 := HRc.out w7 HO7.out; clear hO7)
          | (go_at_call 53; refine (CSm.out w7 HO7.out).mono ?_; rintro e w8 ⟨rfl, hO8⟩; have HO8 := Lib.hid (HO7.out.trans hO8); have hS8 := HRc.out w8 HO8.out; clear hO8)))
      have HR8 := Lib.hid (HR6.out.only HO8.out)
      have HE8 := Lib.hid (HE6.out.only HO8.out)
      have HI8 := Lib.hid (HI6.out.only HO8.out)
      have HOw := Lib.hid (HO6.out.trans HO8.out)
      have hrc : r + 1 ≤ c' := by omega
      clear hS7 hS8 e0 e1 e2 q1 q2 q3 hjr1 hjc wj i0 i3 lk3 lk5 lk6 hq0 HO7 HO8 CSm CGr HRc HR6 HE6 HI6 HO6 HGa
      have hmk := fun W => mk_bools k (by omega) W
      go_wp2_with fail
      clear hmk
      obtain ⟨M, hM⟩ : ∃ M, w8.heap.size = M := ⟨_, rfl⟩
      have H0 := Lib.hid (made_rowB (g := M) (n := k) (w := w8.alloc (.cells (madeCells #[.bool false] k) 4)) (by rw [← hM]; exact heap_alloc_new w8 _))
      have HOa := Lib.hid ((Only.refl [] w8).alloc (.cells (madeCells #[.bool false] k) 4))
      rw [hM]
      have HM := Lib.hid hM
      clear hM
      go_loopw [121] (fun i wr => ∃ t : Nat, t ≤ r ∧ i = .int .i64 t ∧ Hid (RowB wr M k (inF fo t)) ∧ Hid (Only [] w8 wr)) (fun i _ => r - (intOf i).toNat)
      case atStart => exact ⟨0, Nat.zero_le _, rfl, Lib.hid (H0.out.congr fun i _ => (inF_zero fo i).symm), HOa⟩
      case round =>
        clear H0 HOa
        obtain ⟨t, ht, rfl, H1, HO1⟩ := hrel
        by_cases hlt : t < r
        ·
          as_aux_lemma =>
            obtain ⟨bo, oo, rfl, co1⟩ := (HI8.out.only HO1.out).cell hlt
            obtain ⟨f0, f1⟩ := Ho.out.1 t hlt
            obtain ⟨a, ha⟩ : ∃ a : Nat, fo t = a := ⟨(fo t).toNat, by omega⟩
            have hak : a < k := by omega
            rw [ha] at co1
            have c1 := H1.out.cell hak
            have z1 := H1.out.frozen a
            have H2 := Lib.hid ((H1.out.mark a).congr (f' := inF fo (t + 1)) fun i _ => by
              rw [inF_succ, ha]
              by_cases e : i = a
              · rw [if_pos e, if_pos (by omega)]
              · rw [if_neg e, if_neg (by omega)])
            have HO9 := Lib.hid (HO1.out.to ((Only.refl [M] wr).setCell (g := M) (i := a) (by simp) (.bool true)) fun i hi hlt => by simp at hi; have := HM.out; omega)
            clear ha f0 f1
            go_wp2_with fail
            exact ⟨⟨t + 1, by omega, by go_num, H2, HO9⟩, by simp [intOf]; omega⟩
        · obtain rfl : t = r := by omega
          rename World => W8
          have HRa := Lib.hid (HR8.out.only HO1.out)
          have HEa := Lib.hid (HE8.out.only HO1.out)
          have HIa := Lib.hid (HI8.out.only HO1.out)
          have HOx := Lib.hid (HOw.out.trans HO1.out)
          obtain ⟨va, W9, r9, hown, hO9⟩ := copy_own O t co fo W8 HIa.out (by omega) 68
          have HOW := Lib.hid hown
          have HBW := Lib.hid hO9.toBelow
          have HMk := Lib.hid H1.out
          have HO9 := Lib.hid hO9
          clear hown hO9 HR8 HE8 HI8 HOw hlt ht HO1 H1
          go_wp2_with (at_builtin; refine wpList_append_of rfl _ _ 68 rfl rfl rfl r9 ?_)
          clear r9
          go_loopw [24, 25] (fun vl y wr => ∃ (i q : Nat) (z : Int) (g' : Nat → Int), i ≤ k ∧ q ≤ k ∧ y = .int .i64 z ∧ z = (i : Int) - 1 ∧ Hid (AllI k t fo i q g') ∧ Hid (wr.ownsRow W8.heap.size 3 1 vl q (intsL g' q)) ∧ Hid (Below W8.heap.size W8 wr)) (fun _ y _ => (intOf y + 1).toNat)
          case atStart => exact ⟨k, t, _, fo, Nat.le_refl _, by omega, by go_num, rfl, Lib.hid (AllI.start Ho.out), HOW, HBW⟩
          case round =>
            obtain ⟨i, q, z, g', hik, hqk, rfl, hz, HA, HR, HB⟩ := hrel
            by_cases hlt : 0 ≤ z
            ·
              as_aux_lemma =>
                obtain ⟨i', rfl⟩ : ∃ i', i = i' + 1 := ⟨i - 1, by omega⟩
                obtain rfl : z = (i' : Int) := by omega
                have hb := HB.out
                have hrow := HR.out
                have hsz := hb.size
                have hi' : i' < k := by omega
                have c1 := (HMk.out.only (only_of_below' hb) (by simp)).cell hi'
                cases hq : inF fo t i' with
                | true =>
                  rw [hq] at c1
                  have HA2 := Lib.hid (HA.out.skip hq)
                  clear hq hrow hb hz
                  go_wp2_with fail
                  exact ⟨⟨i', q, _, g', by omega, hqk, by go_num, by omega, HA2, HR, HB⟩, by simp [intOf] <;> omega⟩
                | false =>
                  rw [hq] at c1
                  have HA2 := Lib.hid (HA.out.more hi' hq)
                  have hq1 := HA2.out.rng.short
                  clear hq hz
                  go_wp2_with (at_builtin; refine wpList_append_own _ rfl _ _ 68 rfl W8.heap.size 3 i2 (.int .i64 0) 1 8 Try.underlying68 hi hz0 hz1 hz2 rfl (by decide) _ _ _ rfl (hrow.alloc _) ⟨wr.heap.size, 0, none⟩ 1 1 [.int .i64 i'] rfl rfl (cell_one_new _ _ _) (by simp [Value.oneCell']) (by unfold maxLen; omega) (by omega) (by simp; omega) ?_; intro v' w1' hown' hgrow _; have HN := Lib.hid (And.intro (show w1'.ownsRow W8.heap.size 3 1 v' (q + 1) (intsL (upd g' q i') (q + 1)) by rw [intsL_upd]; exact hown') (below_append hb hrow hgrow)); clear hown' hgrow hrow hb)
                  exact ⟨⟨i', q + 1, _, _, by omega, hq1, by go_num, by omega, HA2, Lib.hid HN.out.1, Lib.hid HN.out.2⟩, by simp [intOf] <;> omega⟩
            · obtain rfl : i = 0 := by omega
              obtain ⟨hqe, hpe⟩ := HA.out.done
              obtain rfl := hqe
              have HOy := Lib.hid (HOx.out.trans (only_of_below' HB.out))
              have HRb := Lib.hid (HRa.out.only (only_of_below' HB.out))
              have HEb := Lib.hid (HEa.out.only (only_of_below' HB.out))
              have hgo := HA.out.rng
              obtain ⟨D, dc, rfl, hD⟩ := ints_owned3 HR.out (fun i hi => by have := hgo.1 i hi; exact wf_of (by omega) (by omega))
              have CM := Lib.hid (drows_cap m q q A D c dc U V X g' wr hm hk HG.out HEb.out hD hgo (Nat.le_refl _))
              have HLo := Lib.hid HA.out.low
              have HPe := Lib.hid hpe
              clear hgo hD hpe HR HB HA HOW HBW HMk HRa HEa HIa HOx HO9 hz hik hqk
              go_wp2_with fail
              refine CM.out.mono ?_
              rintro e wA ⟨A3, c3, rfl, h3, hOA, hc5, hc6⟩
              unfold maxLen at hc6
              have HOA := Lib.hid (HOy.out.trans hOA)
              have HRc := Lib.hid (HRb.out.only hOA)
              have HEc := Lib.hid (HEb.out.only hOA)
              have H3 := Lib.hid h3
              have CN := Lib.hid (GNew_any m A q c U V X wA (HEb.out.only hOA) 0 (HG.out.code hm (by omega)))
              clear h3 hOA CM HOy HRb HEb
              go_wp2_with fail
              refine CN.out.mono ?_
              rintro e wB ⟨hOB, ⟨h0, _⟩ | ⟨_, G3, S3, L3, Ax3, cx3, fs3, rfl, HBl⟩⟩
              · exact absurd rfl h0
              have hpq : ∀ i, i < q → U i = nat U i ∧ V i = nat V i ∧ nat U i < m ∧ nat V i < m := fun i hi => by
                have h2 := (HG.out i hi).1
                unfold GoodE InE at h2
                unfold nat
                omega
              obtain ⟨e1, e2, e3⟩ := row_end (n := m) (p := nat U) (q := nat V) HPe.out one
              have HGb := Lib.hid (show GAt wB G3 m q U V X from ⟨S3, L3, Ax3, cx3, HBl.out.1.head, HBl.out.2⟩)
              have CGr := Lib.hid (fun W (hW : Only [] wB W) => show Calls Try.prog 69 #[.pointer (some ⟨G3, 0, none⟩)] W fun e w' => e = .returned (.agg #[.int .i64 (rA m (nat U) (nat V) (nat g') one q), .int .i64 (rB m (nat U) (nat V) (nat g') q), .int .i64 (rC m (nat U) (nat V) (nat g') one q)]) ∧ Only [] W w' from by
                rw [e1, e2, e3]
                exact GRow_any (HGb.out.only hW) (by omega) hpq)
              obtain ⟨bM, oM, rfl, hbM, _, _, _⟩ := H3.out.cell (j := q) (by omega)
              have HMc := Lib.hid (show ∀ W, Only [] wB W → W.cell? ⟨bM, oM + q * 3, none⟩ = some (.int .i64 (rA m (nat U) (nat V) (nat g') one q)) ∧ W.cell? ⟨bM, oM + q * 3 + 1, none⟩ = some (.int .i64 (rB m (nat U) (nat V) (nat g') q)) ∧ W.cell? ⟨bM, oM + q * 3 + 2, none⟩ = some (.int .i64 (rC m (nat U) (nat V) (nat g') one q)) from fun W hW => by
                obtain ⟨b', o', hA, _, g0, g1, g2⟩ := (H3.out.only (hOB.trans hW)).cell (j := q) (by omega)
                cases hA
                exact ⟨g0, g1, g2⟩)
              have CSm := Lib.hid (fun W (hW : Only [] wB W) => lsame_true (some ⟨bM, oM, none⟩) (some ⟨bR, oR, none⟩) (t + 1) c3 c' f g s W (((H3.out.only (hOB.trans hW)).front (by have := HLo.out.1; omega)).congr fun i hi => by
                have hfr : labK (nat U) (nat V) (nat g') i = labK (nat U) (nat V) (nat fo) i := labK_front_eq fun l hl => by
                  unfold nat
                  rw [HLo.out.2 l (by omega)]
                rw [← HEQ.out.1, ← HEQ.out.2.1, ← HEQ.out.2.2]
                unfold rA rB rC
                rw [hfr]
                exact ⟨rfl, rfl, rfl⟩) (HRc.out.only (hOB.trans hW)) (by omega))
              obtain ⟨fj, hfj⟩ : ∃ fj, rA m (nat U) (nat V) (nat g') one q = fj := ⟨_, rfl⟩
              obtain ⟨gj, hgj⟩ : ∃ gj, rB m (nat U) (nat V) (nat g') q = gj := ⟨_, rfl⟩
              obtain ⟨sj, hsj⟩ : ∃ sj, rC m (nat U) (nat V) (nat g') one q = sj := ⟨_, rfl⟩
              rw [hfj, hgj, hsj] at CGr HMc
              have HOB := Lib.hid (HOA.out.trans hOB)
              have htq := HLo.out.1
              clear e1 e2 e3 hfj hgj hsj hpq hOB HBl HGb H3 CN HOA HRc HEc HPe HLo
              obtain ⟨e0, e1, e2⟩ := HMc.out wB (Only.refl _ _)
              have q1 : (fj == fj) = true := by simp
              have q2 : (gj == gj) = true := by simp
              have q3 : (sj == sj) = true := by simp
              have hqq : q < q + 1 := by omega
              have hjc : t + 1 ≤ c3 := by omega
              have wj : IntKind.i64.wrap ((q : Int) + 1) = (q : Int) + 1 := IntWalk.i64_in _ (by omega)
              have i0 : (0 : Int) ≤ (q : Int) := by omega
              have i3 : (q : Int) < (q : Int) + 1 := by omega
              have lk3 : ((t : Int) + 1).toNat = t + 1 := by omega
              have lk5 : (t : Int) + 1 ≤ (c3 : Int) := by omega
              have lk6 : (0 : Int) ≤ (t : Int) + 1 := by omega
              have lk7 : (((q : Int) + 1) == ((q : Int) + 1)) = true := by simp
              go_wp2_with fail
              go_region_held3 (fun w' => w'.cell? ⟨bM, oM + q * 3, none⟩ = some (.int .i64 fj) ∧ w'.cell? ⟨bM, oM + q * 3 + 1, none⟩ = some (.int .i64 gj) ∧ w'.cell? ⟨bM, oM + q * 3 + 2, none⟩ = some (.int .i64 sj)) (first | exact ⟨e0, e1, e2⟩ | exact e0 | exact e1 | exact e2 | exact hS9 | exact hS8 | exact hS7 | exact hS9.1 | exact hS9.2.1 | exact hS9.2.2 | exact hS8.1 | exact hS8.2.1 | exact hS8.2.2 | exact hS7.1 | exact hS7.2.1 | exact hS7.2.2)
                ((first
                  | (go_at_call 53; refine (CSm.out _ ?_).mono ?_; (first | exact Only.refl _ _ | exact (Only.refl _ _).drewN 1); rintro e wC ⟨rfl, hOC⟩; have HOC := Lib.hid (((Only.refl [] wB).drewN 1).trans hOC); have hS7 := HMc.out wC HOC.out; clear hOC)
                  | (go_at_call 69; refine (CGr.out wC HOC.out).mono ?_; rintro e wD ⟨rfl, hOD⟩; have HOD := Lib.hid (HOC.out.trans hOD); have hS8 := HMc.out wD HOD.out; clear hOD)
                  | (go_at_call 51; refine (sworks_any wD).mono ?_; rintro e wE ⟨rfl, hOE⟩; have HOE := Lib.hid (HOD.out.trans hOE); have hS9 := HMc.out wE HOE.out; clear hOE)))
              have HOz := Lib.hid (HOB.out.trans HOE.out)
              clear hS7 hS8 hS9 e0 e1 e2 q1 q2 q3 hqq hjc wj i0 i3 lk3 lk5 lk6 lk7 HOC HOD HOE CSm CGr HMc
              go_wp2_with fail
              go_ret
              exact ⟨rfl, HOz.out⟩

end Go.Proofs.Ytbafacdknaopjaa
