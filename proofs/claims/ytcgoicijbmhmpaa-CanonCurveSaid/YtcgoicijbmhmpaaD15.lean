/-
  The walk of the law on curves and averages.
-/
import Derived.Test.YtcgoicijbmhmpaaD14
import Derived.Test.YtcgoicijbmhmpaaD11
namespace Go.Proofs.Ytcgoicijbmhmpaa
open Go.RowKit Go.Fl Go.Deep

/-- The probabilities that are made of numbers. -/
def chs (l : Nat → Int) (k : Nat) : Nat := ch ((l k).toNat % 1025)
theorem chs_le (l : Nat → Int) (k : Nat) : (l k).toNat % 1025 ≤ 1024 := by omega
theorem chance_i (x : Int) (h : (Lit.int .u16 x).wf = true) (w : World) : Calls Try.prog 38 #[.int .u16 x] w fun e w' => e = .returned (.float .f64 (ch (x.toNat % 1025))) ∧ w = w' := by
  have hb : 0 ≤ x ∧ x ≤ 65535 := by simpa [Lit.wf, IntKind.min, IntKind.max, IntKind.bits, IntKind.signed] using h
  obtain ⟨p, rfl⟩ := Int.eq_ofNat_of_zero_le hb.1
  exact chance_c p (by omega) w

set_option maxRecDepth 100000 in
set_option maxHeartbeats 16000000 in
theorem canonCurve_walk (A A2 : Option Addr) (n c n2 d : Nat) (l l2 : Nat → Int) (w : World) (h : IntsIn w .u16 A n l) (h2 : IntsIn w .u16 A2 n2 l2) :
    Calls Try.prog 13 #[.slice A n c, .slice A2 n2 d] w fun e w' => e = .returned (.bool true) ∧ Below w.heap.size w w' := by
  obtain ⟨i0, hi, hz0, hz1, hz2⟩ := info_parts Try.info22
  have HR := Lib.hid h.row
  have HW := Lib.hid h.wf
  have HR2 := Lib.hid h2.row
  have HW2 := Lib.hid h2.wf
  have HN := h.len
  have HN2 := h2.len
  unfold maxLen at HN HN2
  clear h h2
  obtain ⟨N, hNn⟩ : ∃ N, N = min n 400 := ⟨_, rfl⟩
  obtain ⟨K, hKn⟩ : ∃ K, K = min n2 20 := ⟨_, rfl⟩
  have HA := Lib.hid (accF_ok (l := l) (n := N) (by omega) (fun k hk => HW.out k (by omega)))
  go_enter Try.func13, Try.ntmps13
  go_wp2
  go_loopw [5, 6] (fun v i wr => ∃ k g cg : Nat, k ≤ N ∧ i = .int .i64 k ∧ v = .slice (some ⟨g, 0, none⟩) (k + 1) cg ∧ Hid (wr.ownsRow w.heap.size 22 1 (.slice (some ⟨g, 0, none⟩) (k + 1) cg) (k + 1) (cellsOf (accF l) (k + 1))) ∧ Below w.heap.size w wr) (fun _ i _ => N - (intOf i).toNat)
  case atStart =>
    exact ⟨0, w.heap.size, 1, Nat.zero_le _, rfl, rfl, Lib.hid (World.ownsRow_lit w #[.float .f64 0] 1 (Nat.le_refl _) (by unfold maxLen; omega) rfl), (Below.refl _ w).alloc (Nat.le_refl _) _⟩
  case round =>
    obtain ⟨k, g, cg, hk, rfl, rfl, hv, hbel⟩ := hrel
    by_cases hkn : k < N
    · obtain ⟨b, off, rfl, hb, hc⟩ := HR.out (by omega)
      have c1 := (hbel.cell (p := ⟨b, off + k, none⟩) hb).trans (hc k (by omega))
      have c2 := (OwnG.of_own hv.out).cell (show k < k + 1 by omega)
      obtain ⟨_, _, a3⟩ := HA.out k (by omega)
      have hadd := fun ty W => run_float_arith (P := Try.prog) W .add ty .f64 _ _ _ (a3 hkn)
      have l1 : (k : Int) < n := by omega
      have l2' : (k : Int) < 400 := by omega
      have l3 : (k : Int) < (k : Int) + 1 := by omega
      have HC := Lib.hid hc
      clear hc a3
      go_wp2
      go_region_law (refine step_append_own rfl (.tmp 29) (.tmp 40) 24 rfl w.heap.size 22 i0 (.float .f64 0) 1 8 Try.underlying24 hi hz0 hz1 hz2 rfl (by decide) _ (k + 1) (cellsOf (accF l) (k + 1)) rfl (hv.out.alloc _).drew ⟨wr.heap.size, 0, none⟩ 1 1 [.float .f64 (accF l (k + 1))] rfl rfl (cell_one_new _ _ _) (by simp [Value.oneCell']) (by unfold maxLen; omega) (by omega) (by have := hbel.size; simp; omega) ?_; intro v' w1 hown' hgrow _)
      all_goals
        have R := own_step hv.out ((hbel.alloc hbel.size _).drew) hgrow hown'
        obtain ⟨g1, cg1, rfl, _⟩ := own_some (show 0 < k + 1 + 1 by omega) R.1.out
        clear hown' hgrow hv
        go_wp2
        go_roundw
        case rel => exact ⟨k + 1, g1, cg1, by omega, by go_num, rfl, R.1, R.2⟩
        case measure => simp [intOf]; omega
    · have hkN : k = N := by omega
      have hst : ¬ (k : Int) < n ∨ ((k : Int) < n ∧ ¬ (k : Int) < 400) := by omega
      have hk4 : k ≤ 400 := by omega
      have HWk := Lib.hid (show ∀ q, q < k → (Lit.int .u16 (l q)).wf = true from fun q hq => HW.out q (by omega))
      have OV := Lib.hid (OwnG.of_own hv.out)
      have hWW := Lib.hid (acc_whole hk4 HWk.out)
      clear hv hkN HA hNn HW
      obtain ⟨wb, rfl⟩ : ∃ wb : World, wb = wr := ⟨_, rfl⟩
      rcases hst with l1 | ⟨l1, l2'⟩
      all_goals
        go_wp2
        go_loopw [7, 8] (fun v i wr => ∃ j : Nat, j ≤ K ∧ i = .int .i64 j ∧ Hid (wr.ownsRow wb.heap.size 22 1 v j (cellsOf (chs l2) j)) ∧ Below wb.heap.size wb wr) (fun _ i _ => K - (intOf i).toNat)
        case atStart => exact ⟨0, Nat.zero_le _, rfl, World.ownsRow_nil _ _ _ _, Below.refl _ _⟩
        case round =>
          obtain ⟨j, hj, rfl, hown, hbel2⟩ := hrel
          by_cases hjK : j < K
          · obtain ⟨b, off, rfl, hb, hc⟩ := HR2.out (by omega)
            have c1 := (hbel2.cell (p := ⟨b, off + j, none⟩) (Nat.lt_of_lt_of_le hb hbel.size)).trans ((hbel.cell (p := ⟨b, off + j, none⟩) hb).trans (hc j (by omega)))
            have CI := Lib.hid (fun W => chance_i (l2 j) (HW2.out j (by omega)) W)
            have l3 : (j : Int) < n2 := by omega
            have l4 : (j : Int) < 20 := by omega
            clear hc
            go_wp2_with (first | (go_at_call 38; refine (CI.out _).mono ?_; rintro e w' ⟨rfl, rfl⟩) | (at_builtin; refine wpList_append_own _ rfl _ _ 24 rfl wb.heap.size 22 i0 (.float .f64 0) 1 8 Try.underlying24 hi hz0 hz1 hz2 rfl (by decide) _ _ _ rfl (hown.out.alloc _) ⟨_, 0, none⟩ 1 1 [.float .f64 (chs l2 j)] rfl rfl (cell_one_new _ _ _) (by simp [Value.oneCell']) (by unfold maxLen; omega) (by omega) (by have := hbel2.size; simp; omega) ?_; intro v' w2 hown' hgrow _; have R := own_step (w := wb) (g := chs l2) hown.out (hbel2.alloc hbel2.size _) hgrow hown'; clear hown' hgrow hown))
            go_roundw
            case rel => exact ⟨j + 1, by omega, by go_num, R.1, R.2⟩
            case measure => simp [intOf]; omega
          · have hjK2 : j = K := by omega
            have hst2 : ¬ (j : Int) < n2 ∨ ((j : Int) < n2 ∧ ¬ (j : Int) < 20) := by omega
            have hj20 : j ≤ 20 := by omega
            obtain ⟨AT, dt, rfl, hrowT⟩ := own_rowF hown.out
            have OVb := Lib.hid (OV.out.below hbel2 OV.out.lt)
            have HB := Lib.hid (hbel.trans (hbel2.mono hbel.size))
            have HT := Lib.hid hrowT
            clear hown hrowT hjK2 OV HR2 HW2 hKn hbel hbel2
            rcases hst2 with l3 | ⟨l3, l4⟩
            all_goals
              go_wp2_with fail
              refine (Curve_ok (some ⟨g, 0, none⟩) AT (k + 1) cg j dt (accF l) (chs l2) wr (hWW.out.listIn OVb.out (by omega)) ⟨HT.out, fun q _ => ch_lt (chs_le l2 q), by unfold maxLen; omega⟩ (by omega) (hWW.out.list M26 (by omega) (by omega)) (fun q _ => ch_prob (chs_le l2 q))).mono ?_
              rintro e w3 ⟨⟨CG, cc, rfl, hrowC⟩, hb3⟩
              have OV3 := Lib.hid (OVb.out.below hb3 OVb.out.lt)
              have T3 := Lib.hid (HT.out.below hb3)
              have C3 := Lib.hid hrowC
              have HB3 := Lib.hid (HB.out.trans (hb3.mono HB.out.size))
              clear hrowC hb3 OVb HT HB
              have c1 := OV3.out.cell (show k < k + 1 by omega)
              have l5 : (k : Int) < (k : Int) + 1 := by omega
              go_wp2
              clear c1
              go_loopw [83] (fun i wq => ∃ a : Nat, a ≤ j ∧ i = .int .i64 a ∧ Below w3.heap.size w3 wq) (fun i _ => j - (intOf i).toNat)
              case atStart => exact ⟨0, Nat.zero_le _, rfl, Below.refl _ _⟩
              case round =>
                obtain ⟨a, ha, rfl, hbq⟩ := hrel
                obtain ⟨wq, rfl⟩ : ∃ wq : World, wq = wr := ⟨_, rfl⟩
                by_cases haj : a < j
                · obtain ⟨b3, off3, rfl, hb3, hc3⟩ := T3.out (by omega)
                  obtain ⟨b4, off4, rfl, hb4, hc4⟩ := C3.out (by omega)
                  have c1 := (hbq.cell (p := ⟨b3, off3 + a, none⟩) hb3).trans (hc3 a haj)
                  have la : (a : Int) < j := by omega
                  have OVq := Lib.hid (OV3.out.below hbq OV3.out.lt)
                  have HC3 := Lib.hid hc3
                  have HC4 := Lib.hid hc4
                  clear hc3 hc4
                  go_wp2_with fail
                  refine (avg_call g (k + 1) cg (chs l2 a) _ _ M26 wq hWW.out OVq.out (by omega) (by omega) (ch_lt (chs_le l2 a)) (ch_prob (chs_le l2 a))).mono ?_
                  rintro e w5 ⟨rfl, hb5⟩
                  have B5 := Lib.hid (hbq.trans (hb5.mono hbq.size))
                  have c2 := (B5.out.cell (p := ⟨b4, off4 + a, none⟩) hb4).trans (HC4.out a haj)
                  have CO := Lib.hid (fun W => one_any (avg (accF l) (k + 1 - 1) (absb (chs l2 a))) (avg (accF l) (k + 1 - 1) (absb (chs l2 a))) W)
                  simp only [beq_self_eq_true] at CO
                  clear c1 hb5 OVq hbq
                  go_wp2_with (go_at_call 35; refine (CO.out _).mono ?_; rintro e w' ⟨rfl, rfl⟩)
                  clear c2
                  go_loopw [108] (fun i wz => ∃ b : Nat, b ≤ j ∧ i = .int .i64 b ∧ Below w3.heap.size w3 wz) (fun i _ => j - (intOf i).toNat)
                  case atStart => exact ⟨0, Nat.zero_le _, rfl, B5.out⟩
                  case round =>
                    obtain ⟨b, hb, rfl, hbz⟩ := hrel
                    by_cases hbj : b < j
                    · have x1 := (hbz.cell (p := ⟨b3, off3 + a, none⟩) hb3).trans (HC3.out a haj)
                      have x2 := (hbz.cell (p := ⟨b3, off3 + b, none⟩) hb3).trans (HC3.out b hbj)
                      have x3 := (hbz.cell (p := ⟨b4, off4 + a, none⟩) hb4).trans (HC4.out a haj)
                      have x4 := (hbz.cell (p := ⟨b4, off4 + b, none⟩) hb4).trans (HC4.out b hbj)
                      have lb : (b : Int) < j := by omega
                      obtain ⟨_, pa1, pa2⟩ := ch_ok (chs_le l2 a)
                      obtain ⟨_, pb1, pb2⟩ := ch_ok (chs_le l2 b)
                      cases hle : fle (chs l2 a) (chs l2 b) with
                      | true =>
                        have hv := (fle_iff pa1 pb1).1 hle
                        obtain ⟨o1, o2, o3⟩ := curve_le hk4 HWk.out (ok_abs (m := k) (by omega) (ch_lt (chs_le l2 a)) (ch_prob (chs_le l2 a))) (ok_abs (m := k) (by omega) (ch_lt (chs_le l2 b)) (ch_prob (chs_le l2 b))) (by rw [fv_ch (chs_le l2 a), fv_ch (chs_le l2 b)]; exact hv)
                        have h1 : (FloatKind.f64.format.order (chs l2 a) (chs l2 b) == some Ordering.lt || FloatKind.f64.format.order (chs l2 a) (chs l2 b) == some Ordering.eq) = true := hle
                        have h3 : (FloatKind.f64.format.order (avg (accF l) k (absb (chs l2 a))) (fadd (avg (accF l) k (absb (chs l2 b))) (fmul tiny2W (accF l k))) == some Ordering.gt) = false := o3
                        have m1 := fun ty W => run_float_arith (P := Try.prog) W .mul ty .f64 _ _ _ o1
                        have m2 := fun ty W => run_float_arith (P := Try.prog) W .add ty .f64 _ _ _ (show floatBits .add .f64 (avg (accF l) k (absb (chs l2 b))) (fmul tiny2W (accF l k)) = some (fadd (avg (accF l) k (absb (chs l2 b))) (fmul tiny2W (accF l k))) from o2)
                        rw [Nat.add_sub_cancel] at x3 x4
                        clear o1 o2 o3 hv hle pa1 pa2 pb1 pb2
                        generalize hti : fmul tiny2W (accF l k) = ti at *
                        clear hti
                        unfold tiny2W at m1
                        go_wp2
                        go_quiet (fail)
                        go_wp2
                        go_roundw
                        case rel => exact ⟨b + 1, by omega, by go_num, hbz.trans (Drawn.below ⟨nq, rfl⟩ _)⟩
                        case measure => simp [intOf]; omega
                      | false =>
                        have h1 : (FloatKind.f64.format.order (chs l2 a) (chs l2 b) == some Ordering.lt || FloatKind.f64.format.order (chs l2 a) (chs l2 b) == some Ordering.eq) = false := hle
                        clear hle pa1 pa2 pb1 pb2
                        go_wp2
                        go_quiet (fail)
                        go_wp2
                        go_roundw
                        case rel => exact ⟨b + 1, by omega, by go_num, hbz.trans (Drawn.below ⟨nq, rfl⟩ _)⟩
                        case measure => simp [intOf]; omega
                    · have lb : ¬ (b : Int) < j := by omega
                      go_wp2
                      go_roundw
                      case rel => exact ⟨a + 1, by omega, by go_num, hbz⟩
                      case measure => simp [intOf]; omega
                · have la : ¬ (a : Int) < j := by omega
                  have hmk : ∀ W, (Instr.makeSlice 24 (.int .i64 1025) (.int .i64 1025)).run Try.prog W = .ok (.slice (some ⟨W.heap.size, 0, none⟩) 1025 1025) (W.alloc (.cells (madeCells #[.float .f64 0] 1025) 22)) := fun W => run_mk 1025 (by omega) W
                  have HBq := Lib.hid (HB3.out.trans (hbq.mono HB3.out.size))
                  go_wp2_with fail
                  refine (Curve_long _ _ (k + 1) cg 1025 1025 _ (by omega)).mono ?_
                  rintro e w6 ⟨rfl, hb6⟩
                  go_wp2_with (go_at_call 27; refine (works_any _).mono ?_; rintro e w7 ⟨rfl, hb7⟩)
                  go_ret
                  have b1 := HBq.out.alloc HBq.out.size (.cells (madeCells #[.float .f64 0] 1025) 22)
                  have b2 := b1.trans (hb6.mono b1.size)
                  exact ⟨rfl, b2.trans (hb7.mono b2.size)⟩
end Go.Proofs.Ytcgoicijbmhmpaa
