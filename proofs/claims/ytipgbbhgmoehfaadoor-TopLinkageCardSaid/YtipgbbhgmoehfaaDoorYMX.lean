import Derived.Test.YtipgbbhgmoehfaaDoorYMN
import Derived.Test.YtipgbbhgmoehfaaDoorZ9
/-
  linkage.Matrix.
-/
namespace Go.Proofs.YtipgbbhgmoehfaaDoor
open Go.RowKit Go.Shelf
attribute [local go_sem] Oper.semAt_some
set_option linter.unusedSimpArgs false
set_option linter.unusedVariables false
set_option linter.unusedSectionVars false

/-- Some merge joins a and b. -/
def JN (p q : Nat → Nat) (c a b : Nat) : Prop := ∃ k, k < c ∧ tlab p q k a ≠ tlab p q k b ∧ tlab p q (k + 1) a = tlab p q (k + 1) b
def MatPost (n : Int) (m : Nat) (u v x : Nat → Int) (w : World) (e : Ending) (w' : World) : Prop := Only [] w w' ∧ ((∃ code : Int, code ≠ 0 ∧ e = .returned (.tuple #[.slice none 0 0, .int .i64 code])) ∨
  (GCode n m u v 0 ∧ ∃ (n' : Nat) (o : Nat → Nat) (c B : Nat), n = (n' : Int) ∧ n' ≤ 128 ∧ ByWeight m x o ∧ (fl (nat u) (nat v) o m).length = c ∧ (∀ j, j < m → nat u j < n' ∧ nat v j < n') ∧ (∀ j, j < m → 0 ≤ x j ∧ x j ≤ 1099511627776) ∧
    (∀ a b, a < n' → b < a → JN (fun i => nat u (sel (fl (nat u) (nat v) o m) i)) (fun i => nat v (sel (fl (nat u) (nat v) o m) i)) c a b) ∧ e = .returned (.tuple #[.slice (some ⟨B, 0, none⟩) (n' * n') (n' * n'), .int .i64 0]) ∧
    RowZ w' 2 B (n' * n') (fun i => mmD (fun i => nat u (sel (fl (nat u) (nat v) o m) i)) (fun i => nat v (sel (fl (nat u) (nat v) o m) i)) (fun i => x (sel (fl (nat u) (nat v) o m) i)) c (i / n') (i % n'))))
set_option maxRecDepth 100000 in
set_option maxHeartbeats 8000000 in
theorem Matrix_any (n : Int) (A : Option Addr) (m cp : Nat) (u v x : Nat → Int) (w : World) (h : EdgesIn w A m u v x) (hT : Tab w) (k : Int) (hk : GCode n m u v k) : Calls Tryd.prog 5 #[.int .i64 n, .slice A m cp] w (MatPost n m u v x w) := by
  have HE := Lib.hid h
  have HK := Lib.hid hk
  have CN := Lib.hid (MNew_any n A m cp u v x w h hT k hk)
  clear h hT hk
  go_enter Tryd.func5, Tryd.ntmps5
  by_cases hbig : 128 < n
  · clear CN
    go_wp2_with fail
    go_ret2
    exact ⟨Only.refl _ _, .inl ⟨2, by omega, rfl⟩⟩
  go_wp2_with fail
  refine CN.out.mono ?_
  rintro e w1 ⟨hO1, ⟨h0, rfl⟩ | ⟨rfl, n', o, c, F, hn, hb, hc, hlt, rfl, hF⟩⟩
  · have q1 : (k != 0) = true := by simpa using h0
    have HO1 := Lib.hid hO1
    clear hO1 CN
    go_wp2_with fail
    go_ret2
    exact ⟨HO1.out, .inl ⟨k, by simpa using q1, rfl⟩⟩
  have hm0 := (gcode_ok HK.out).1.2.2
  subst hn
  obtain ⟨p, hp⟩ : ∃ p, (fun i => nat u (sel (fl (nat u) (nat v) o m) i)) = p := ⟨_, rfl⟩
  obtain ⟨q, hq⟩ : ∃ q, (fun i => nat v (sel (fl (nat u) (nat v) o m) i)) = q := ⟨_, rfl⟩
  obtain ⟨hh, hhh⟩ : ∃ hh, (fun i => x (sel (fl (nat u) (nat v) o m) i)) = hh := ⟨_, rfl⟩
  have HP := Lib.hid (And.intro hp (And.intro hq hhh))
  rw [hp, hq, hhh] at hF
  have HF := Lib.hid hF
  have HB := Lib.hid (And.intro hb (And.intro hc hlt))
  have HO1 := Lib.hid hO1
  have HE1 := Lib.hid (HE.out.only hO1)
  clear hO1 CN hF hb hc hlt hp hq hhh HE
  go_wp2_with fail
  go_loopw [28] (fun y wr => ∃ j : Nat, j ≤ m ∧ y = .int .i64 j ∧ Hid (∀ i, i < j → 0 ≤ x i ∧ x i ≤ 1099511627776) ∧ Hid (Only [] w1 wr)) (fun y _ => m - (intOf y).toNat)
  case atStart => exact ⟨0, Nat.zero_le _, rfl, Lib.hid (fun i hi => absurd hi (Nat.not_lt_zero i)), Lib.hid (Only.refl _ _)⟩
  case round =>
    obtain ⟨j, hj, rfl, HX, HO⟩ := hrel
    by_cases hlt : j < m
    · obtain ⟨b, off, rfl, hb, g1, g2, g3⟩ := (HE1.out.only HO.out).cell hlt
      have q1 : (j : Int) < (m : Int) := by omega
      obtain ⟨uu, huu⟩ : ∃ uu, u j = uu := ⟨_, rfl⟩
      obtain ⟨vv, hvv⟩ : ∃ vv, v j = vv := ⟨_, rfl⟩
      obtain ⟨xx, hxx⟩ : ∃ xx, x j = xx := ⟨_, rfl⟩
      rw [huu] at g1
      rw [hvv] at g2
      rw [hxx] at g3
      have Hxx := Lib.hid hxx
      clear huu hvv hxx hb
      by_cases h1 : xx < 0
      · go_wp2_with fail
        go_ret2
        exact ⟨(HO1.out.trans HO.out).alloc _, .inl ⟨3, by omega, rfl⟩⟩
      · by_cases h2 : 1099511627776 < xx
        · go_wp2_with fail
          go_ret2
          exact ⟨(HO1.out.trans HO.out).alloc _, .inl ⟨3, by omega, rfl⟩⟩
        · go_wp2_with fail
          exact ⟨⟨j + 1, by omega, by go_num, Lib.hid (fun i hi => by
            by_cases e : i = j
            · rw [e, Hxx.out]; omega
            · exact HX.out i (by omega)), Lib.hid (HO.out.alloc _)⟩, by simp [intOf]; omega⟩
    · obtain rfl : j = m := by omega
      obtain ⟨nn, hnn⟩ : ∃ nn, n' * n' = nn := ⟨_, rfl⟩
      have hnb : nn ≤ 16384 := by
        have := Nat.mul_le_mul (show n' ≤ 128 by omega) (show n' ≤ 128 by omega)
        omega
      have hm1 : (n' : Int) * (n' : Int) = (nn : Int) := by rw [← hnn]; simp
      have hmk := fun W => mk_ints64 nn (by omega) W
      have hw2 := HO.out
      clear hlt hj
      go_upto_region 13 with (fail)
      obtain ⟨w5, hw5⟩ : ∃ w5, wr.alloc (.cells (madeCells #[.int .i64 0] nn) 2) = w5 := ⟨_, rfl⟩
      rw [hw5]
      have hD0 := made_rowZ (hw5 ▸ heap_alloc_new wr (.cells (madeCells #[.int .i64 0] nn) 2) : w5.heap[wr.heap.size]? = some (.cells (madeCells #[.int .i64 0] nn) 2 (0, 0)))
      have hO5 : Only [] wr w5 := hw5 ▸ (Only.refl [] wr).alloc _
      obtain ⟨DB, hDB⟩ : ∃ DB, wr.heap.size = DB := ⟨_, rfl⟩
      have HDB := Lib.hid hDB
      rw [hDB] at hD0 ⊢
      have hD1 : RowZ w5 2 DB nn (gfill n' (mmD p q hh c) 0 0) := hD0.congr fun i _ => (gfill_start _ _ _).symm
      have HD1 := Lib.hid hD1
      have HF5 := Lib.hid (HF.out.only (HO.out.trans hO5))
      have HO5 := Lib.hid (HO1.out.trans (HO.out.trans hO5))
      have hs1 := HO1.out.size
      have hs2 := HO.out.size
      have HDw := Lib.hid (show w.heap.size ≤ DB by omega)
      have HDl := Lib.hid (hD0.lt)
      have HWR := Lib.hid (show ∀ wx, Only [DB] w5 wx → Only [] wr wx from fun wx hx => hO5.to hx fun i hi hl => by simp at hi; omega)
      have HFw := Lib.hid (HF.out.only HO.out)
      clear hw5 hD0 hD1 hO5 hmk HF hs1 hs2 hw2 HO1 hDB
      go_wp2_with fail
      go_loopw [46] (fun y wx => ∃ U : Nat, U ≤ n' ∧ y = .int .i64 U ∧ Hid (RowZ wx 2 DB nn (gfill n' (mmD p q hh c) U 0)) ∧ Hid (∀ a b, a < U → b < a → JN p q c a b) ∧ Hid (Only [DB] w5 wx)) (fun y _ => n' - (intOf y).toNat)
      case atStart => exact ⟨0, Nat.zero_le _, rfl, HD1, Lib.hid (fun a b ha _ => absurd ha (Nat.not_lt_zero a)), Lib.hid (Only.refl _ _)⟩
      case round =>
        clear HD1
        obtain ⟨U, hU, rfl, HD, HJ, HX5⟩ := hrel
        by_cases hlU : U < n'
        · go_wp2_with fail
          go_loopw [50] (fun y wx => ∃ V : Nat, V ≤ U ∧ y = .int .i64 V ∧ Hid (RowZ wx 2 DB nn (gfill n' (mmD p q hh c) U V)) ∧ Hid (∀ b, b < V → JN p q c U b) ∧ Hid (Only [DB] w5 wx)) (fun y _ => U - (intOf y).toNat)
          case atStart => exact ⟨0, Nat.zero_le _, rfl, HD, Lib.hid (fun b hb => absurd hb (Nat.not_lt_zero b)), HX5⟩
          case round =>
            clear HD HX5
            obtain ⟨V, hV, rfl, HD, HJ2, HX5⟩ := hrel
            by_cases hlV : V < U
            · have CM := Lib.hid (Minimax_any (HFw.out.only (HWR.out _ HX5.out)) U V hlU (by omega))
              go_wp2_with fail
              refine CM.out.mono ?_
              rintro e w7 ⟨hO7, ⟨e1, rfl⟩ | ⟨_, h2, rfl⟩ | ⟨_, kk, k1, k2, k3, rfl⟩⟩
              · omega
              · have HO7 := Lib.hid ((HO5.out.to HX5.out fun i hi hl => by simp at hi; have := HDw.out; omega).trans hO7)
                clear CM hO7 h2
                go_wp2_with fail
                go_ret2
                exact ⟨HO7.out, .inl ⟨5, by omega, rfl⟩⟩
              · obtain ⟨i1, hi1⟩ : ∃ i1, U * n' = i1 := ⟨_, rfl⟩
                obtain ⟨i2, hi2⟩ : ∃ i2, V * n' = i2 := ⟨_, rfl⟩
                have l1 := mat_lt hlU (show V < n' by omega)
                have l2 := mat_lt (show V < n' by omega) hlU
                rw [hnn] at l1 l2
                rw [hi1] at l1
                rw [hi2] at l2
                have hm2 : (U : Int) * (n' : Int) = (i1 : Int) := by rw [← hi1]; simp
                have hm3 : (V : Int) * (n' : Int) = (i2 : Int) := by rw [← hi2]; simp
                have hR7 := HD.out.only hO7 (by simp)
                have z1 := hR7.frozen (i1 + V)
                have c1 := hR7.cell l1
                obtain ⟨v1, hv1⟩ : ∃ v1, gfill n' (mmD p q hh c) U V (i1 + V) = v1 := ⟨_, rfl⟩
                obtain ⟨v2, hv2⟩ : ∃ v2, gfill n' (mmD p q hh c) U V (i2 + U) = v2 := ⟨_, rfl⟩
                obtain ⟨tt, htt⟩ : ∃ tt, hh kk = tt := ⟨_, rfl⟩
                rw [htt]
                have hst := hR7.set (i1 + V) tt
                have z2 := hst.frozen (i2 + U)
                have c2 := hst.cell l2
                have hne : ¬ i2 + U = i1 + V := fun e => by
                  rw [← hi1, ← hi2] at e
                  have := mat_inj hlU (show V < n' by omega) e
                  omega
                rw [if_neg hne, hv2] at c2
                rw [hv1] at c1
                have hval : mmD p q hh c U V = tt := by rw [mmD_is k2 k3 k1, htt]
                have HN7 := Lib.hid (show RowZ ((w7.setCell ⟨DB, i1 + V, none⟩ (.int .i64 tt)).setCell ⟨DB, i2 + U, none⟩ (.int .i64 tt)) 2 DB nn (gfill n' (mmD p q hh c) U (V + 1)) from
                  (hst.set (i2 + U) tt).congr fun i hi => by
                    rw [← hi1, ← hi2]
                    exact gfill_next (fun a b => mmD_sym p q hh c a b) hlU hlV hval (by rw [hnn]; exact hi))
                have HJ3 := Lib.hid (show ∀ b, b < V + 1 → JN p q c U b from fun b hb => by
                  by_cases e : b = V
                  · rw [e]; exact ⟨kk, k1, k2, k3⟩
                  · exact HJ2.out b (by omega))
                have HX7 := Lib.hid (show Only [DB] w5 ((w7.setCell ⟨DB, i1 + V, none⟩ (.int .i64 tt)).setCell ⟨DB, i2 + U, none⟩ (.int .i64 tt)) from
                  ((HX5.out.trans (hO7.mono (by simp))).setCell (g := DB) (i := i1 + V) (by simp) _).setCell (g := DB) (i := i2 + U) (by simp) _)
                have r1 : ((i1 + V : Nat) : Int) = (i1 : Int) + (V : Int) := by omega
                have r2 : ((i2 + U : Nat) : Int) = (i2 : Int) + (U : Int) := by omega
                have r3 : ((i1 : Int) + (V : Int)).toNat = i1 + V := by omega
                have r4 : ((i2 : Int) + (U : Int)).toNat = i2 + U := by omega
                have r5 : (i1 : Int) + (V : Int) < (nn : Int) := by omega
                have r6 : (i2 : Int) + (U : Int) < (nn : Int) := by omega
                clear CM hO7 k1 k2 k3 hi1 hi2 hR7 hv1 hv2 htt hst hval HD
                go_wp2_with fail
                exact ⟨⟨V + 1, by omega, by go_num, HN7, HJ3, HX7⟩, by simp [intOf]; omega⟩
            · obtain rfl : V = U := by omega
              have HD2 := Lib.hid (HD.out.congr fun i _ => gfill_row (D := mmD p q hh c) (fun a => by unfold mmD; rw [if_pos rfl]) V i)
              go_wp2_with fail
              exact ⟨⟨V + 1, by omega, by go_num, HD2, Lib.hid (fun a b ha hb => by
                by_cases e : a = V
                · rw [e] at hb ⊢; exact HJ2.out b hb
                · exact HJ.out a b (by omega) hb), HX5⟩, by simp [intOf]; omega⟩
        · obtain rfl : U = n' := by omega
          have HOz := Lib.hid (HO5.out.to HX5.out fun i hi hl => by simp at hi; have := HDw.out; omega)
          go_wp2_with fail
          go_ret2
          refine ⟨HOz.out, .inr ⟨HK.out, U, o, c, DB, rfl, by omega, HB.out.1, HB.out.2.1, HB.out.2.2, HX.out, ?_, by rw [hnn]; rfl, ?_⟩⟩
          · rw [HP.out.1, HP.out.2.1]
            exact HJ.out
          · rw [HP.out.1, HP.out.2.1, HP.out.2.2, hnn]
            exact HD.out.congr fun i hi => gfill_end (by rw [hnn]; exact hi)

end Go.Proofs.YtipgbbhgmoehfaaDoor
