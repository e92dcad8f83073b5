/-
  The walk of the law on rising values.
-/
import Derived.Test.YtcgoicijbmhmpaaD10
import Derived.Test.YtcgoicijbmhmpaaE1
namespace Go.Proofs.Ytcgoicijbmhmpaa
open Go.RowKit Go.Fl Go.Deep
attribute [local go_sem] unary_neg_float

theorem own_drawn {w wr : World} {base : Nat} {e : TypeId} {size n : Nat} {v : Value} {xs : List Value} (h : w.ownsRow base e size v n xs) (hd : Drawn w wr) : wr.ownsRow base e size v n xs := by
  obtain ⟨q, rfl⟩ := hd
  exact h
theorem own_lt {w : World} {base : Nat} {e : TypeId} {size n c g : Nat} {xs : List Value} (h : w.ownsRow base e size (.slice (some ⟨g, 0, none⟩) n c) n xs) : base ≤ g ∧ g < w.heap.size := h.lt g rfl
/-- One element more, beside another row. -/
theorem own_two {w wr W w1 : World} {k g c g' c' h ch : Nat} {f u : Nat → Nat} {m : Nat} (hown : wr.ownsRow w.heap.size 22 1 (.slice (some ⟨g, 0, none⟩) k c) k (cellsOf f k)) (hother : W.ownsRow w.heap.size 22 1 (.slice (some ⟨h, 0, none⟩) m ch) m (cellsOf u m)) (hW : Below w.heap.size w W)
    (hne : g ≠ h) (hgr : W.grownBy w1 (some g)) (h1 : w1.ownsRow w.heap.size 22 1 (.slice (some ⟨g', 0, none⟩) (k + 1) c') (k + 1) (cellsOf f k ++ [.float .f64 (f k)])) (hg' : g' = g ∨ g' = W.heap.size) :
    Hid (w1.ownsRow w.heap.size 22 1 (.slice (some ⟨g', 0, none⟩) (k + 1) c') (k + 1) (cellsOf f (k + 1))) ∧ Hid (w1.ownsRow w.heap.size 22 1 (.slice (some ⟨h, 0, none⟩) m ch) m (cellsOf u m)) ∧ g' ≠ h ∧ Below w.heap.size w w1 := by
  obtain ⟨a, b⟩ := own_step hown hW hgr h1
  refine ⟨a, hother.kept hgr (.inr (by simp [Value.ownBlock]; exact fun e => hne e.symm)), ?_, b⟩
  have := own_lt hother
  rcases hg' with rfl | rfl
  · exact hne
  · omega

set_option maxRecDepth 100000 in
set_option maxHeartbeats 4000000 in
theorem canonRises_walk (A : Option Addr) (n c : Nat) (l : Nat → Int) (p : Nat) (w : World) (h : IntsIn w .u16 A n l) (hp : p ≤ 65535) :
    Calls Try.prog 12 #[.slice A n c, .int .u16 p] w fun e w' => e = .returned (.bool true) ∧ Below w.heap.size w w' := by
  obtain ⟨i0, hi, hz0, hz1, hz2⟩ := info_parts Try.info22
  obtain ⟨q, hq⟩ : ∃ q, q = p % 1025 := ⟨_, rfl⟩
  have hq1 : q ≤ 1024 := by omega
  have CH := Lib.hid (fun W => chance_c p hp W)
  rw [← hq] at CH
  have HL := Lib.hid (ch_lt hq1)
  have HP := Lib.hid (ch_prob hq1)
  have HK := Lib.hid (fun m (hm : m ≤ 16384) => ok_abs (m := m) hm (ch_lt hq1) (ch_prob hq1))
  have HR := Lib.hid h.row
  have HW := Lib.hid h.wf
  have HN := h.len
  unfold maxLen at HN
  clear h hq
  obtain ⟨N, hNn⟩ : ∃ N, N = min n 400 := ⟨_, rfl⟩
  have HA := Lib.hid (accF_ok (l := l) (n := N) (by omega) (fun k hk => HW.out k (by omega)))
  go_enter Try.func12, Try.ntmps12
  go_wp2
  go_loopw [5, 6, 7] (fun v d i wr => ∃ k g cg h ch : Nat, k ≤ N ∧ i = .int .i64 k ∧ v = .slice (some ⟨g, 0, none⟩) (k + 1) cg ∧ d = .slice (some ⟨h, 0, none⟩) (k + 1) ch ∧ g ≠ h ∧
    Hid (wr.ownsRow w.heap.size 22 1 (.slice (some ⟨g, 0, none⟩) (k + 1) cg) (k + 1) (cellsOf (accF l) (k + 1))) ∧ Hid (wr.ownsRow w.heap.size 22 1 (.slice (some ⟨h, 0, none⟩) (k + 1) ch) (k + 1) (cellsOf (negF l) (k + 1))) ∧ Below w.heap.size w wr) (fun _ _ i _ => N - (intOf i).toNat)
  case atStart =>
    exact ⟨0, w.heap.size, 1, w.heap.size + 1, 1, Nat.zero_le _, rfl, rfl, rfl, by omega, Lib.hid ((World.ownsRow_lit w #[.float .f64 0] 1 (Nat.le_refl _) (by unfold maxLen; omega) rfl).alloc _),
      Lib.hid (by have := World.ownsRow_lit (base := w.heap.size) (e := 22) (size := 1) (w.alloc (.cells #[.float .f64 0] 22)) #[.float .f64 0] 1 (by simp) (by unfold maxLen; omega) rfl; rw [World.size_alloc] at this; exact this),
      ((Below.refl _ w).alloc (Nat.le_refl _) _).alloc (by simp) _⟩
  case round =>
    obtain ⟨k, g, cg, h, ch', hk, rfl, rfl, rfl, hne, hv, hd, hbel⟩ := hrel
    by_cases hkn : k < N
    · obtain ⟨b, off, rfl, hb, hc⟩ := HR.out (by omega)
      have c1 := (hbel.cell (p := ⟨b, off + k, none⟩) hb).trans (hc k (by omega))
      have c2 := (OwnG.of_own hv.out).cell (show k < k + 1 by omega)
      obtain ⟨_, _, a3⟩ := HA.out k (by omega)
      have hadd := fun ty W => run_float_arith (P := Try.prog) W .add ty .f64 _ _ _ (a3 hkn)
      have l1 : (k : Int) < n := by omega
      have l2 : (k : Int) < 400 := by omega
      have l3 : (k : Int) < (k : Int) + 1 := by omega
      have HC := Lib.hid hc
      clear hc a3
      go_wp2
      go_quiet (fail)
      have hdr : Drawn wr (wr.drewN nq) := ⟨nq, rfl⟩
      have V0 := Lib.hid (own_drawn hv.out hdr)
      have D0 := Lib.hid (own_drawn hd.out hdr)
      have B0 : Below w.heap.size w (wr.drewN nq) := hbel.trans (hdr.below _)
      clear hv hd c1 c2 hdr
      generalize wr.drewN nq = W0 at *
      have hnegF : negF l (k + 1) = fneg (accF l (k + 1)) := by unfold negF; rw [if_neg (by omega)]
      have HN2 := Lib.hid hnegF
      clear hnegF
      go_wp2_with (first
        | (at_builtin; refine wpList_append_at rfl (.tmp 35) (.tmp 37) 24 rfl w.heap.size 22 i0 (.float .f64 0) 1 8 Try.underlying24 hi hz0 hz1 hz2 rfl (by decide) g (k + 1) cg _ rfl (V0.out.alloc _) ⟨_, 0, none⟩ 1 1 [.float .f64 (accF l (k + 1))] rfl rfl (cell_one_new _ _ _) (by simp [Value.oneCell']) (by unfold maxLen; omega) (by omega) (by have := B0.size; simp; omega) ?_; intro g1 cg1 w1 hv1 hg1 hgr1; have R1 := own_two V0.out (D0.out.alloc _) (B0.alloc B0.size _) hne hgr1 hv1 hg1; clear hv1 hg1 hgr1 V0 D0)
        | (at_builtin; refine wpList_append_at rfl (.tmp 39) (.tmp 42) 24 rfl w.heap.size 22 i0 (.float .f64 0) 1 8 Try.underlying24 hi hz0 hz1 hz2 rfl (by decide) h (k + 1) ch' _ rfl (R1.2.1.out.alloc _) ⟨_, 0, none⟩ 1 1 [.float .f64 (fneg (accF l (k + 1)))] rfl rfl (cell_one_new _ _ _) (by simp [Value.oneCell']) (by unfold maxLen; omega) (by omega) (by have := R1.2.2.2.size; simp; omega) ?_; intro h1 ch1 w2 hd1 hh1 hgr2; rw [← HN2.out] at hd1; have R2 := own_two R1.2.1.out (R1.1.out.alloc _) (R1.2.2.2.alloc R1.2.2.2.size _) (Ne.symm R1.2.2.1) hgr2 hd1 hh1; clear hd1 hh1 hgr2 R1))
      go_roundw
      case rel => exact ⟨k + 1, g1, cg1, h1, ch1, by omega, by go_num, rfl, rfl, Ne.symm R2.2.2.1, R2.2.1, R2.1, R2.2.2.2⟩
      case measure => simp [intOf]; omega
    · have hkN : k = N := by omega
      have K1 := HK.out (k - 1) (by omega)
      obtain ⟨r1, r2, r3, r4⟩ := rises_ok (l := l) (n := k) (by omega) (fun j hj => HW.out j (by omega)) K1
      have W1 := Lib.hid (acc_whole (l := l) (n := k) (by omega) (fun j hj => HW.out j (by omega)))
      have W2 := Lib.hid (neg_whole (l := l) (n := k) (by omega) (fun j hj => HW.out j (by omega)))
      have g1 : (FloatKind.f64.format.order (slope (accF l) k (absb (ch q))) 0 == some Ordering.gt || FloatKind.f64.format.order (slope (accF l) k (absb (ch q))) 0 == some Ordering.eq) = true := (fge_iff r1 isFin_zero).2 (by rw [fv_zero]; exact r3)
      have g2 : (FloatKind.f64.format.order (slope (accF l) k (absb (ch q))) (Op.negFloat .f64 (slope (negF l) k (absb (ch q)))) == some Ordering.eq) = true := feq_of r1 (isFin_neg r2) (r4.trans (fv_neg r2).symm)
      have O1 := Lib.hid (OwnG.of_own hv.out)
      have O2 := Lib.hid (OwnG.of_own hd.out)
      have hst : ¬ (k : Int) < n ∨ ((k : Int) < n ∧ ¬ (k : Int) < 400) := by omega
      clear hv hd K1 r1 r2 r3 r4 hkN
      rcases hst with l1 | ⟨l1, l2⟩
      all_goals
        go_wp2_with (go_at_call 38; refine (CH.out _).mono ?_; rintro e w' ⟨rfl, rfl⟩)
        refine (slope_call g (k + 1) cg (ch q) _ _ M26 wr W1.out O1.out (by omega) (by omega) HL.out HP.out).mono ?_
        rintro e w5 ⟨rfl, hb5⟩
        have O3 := Lib.hid (O2.out.below hb5 O2.out.lt)
        go_wp2_with (go_at_call 38; refine (CH.out _).mono ?_; rintro e w' ⟨rfl, rfl⟩)
        refine (slope_call h (k + 1) ch' (ch q) _ _ M26 w5 W2.out O3.out (by omega) (by omega) HL.out HP.out).mono ?_
        rintro e w6 ⟨rfl, hb6⟩
        rw [Nat.add_sub_cancel]
        clear O1 O2 O3
        generalize slope (accF l) k (absb (ch q)) = s1 at *
        generalize slope (negF l) k (absb (ch q)) = s2 at *
        go_wp2_with (go_at_call 27; refine (works_any _).mono ?_; rintro e w7 ⟨rfl, hb7⟩)
        go_ret
        exact ⟨rfl, ((hbel.trans (hb5.mono hbel.size)).trans (hb6.mono (Nat.le_trans hbel.size hb5.size))).trans (hb7.mono (Nat.le_trans (Nat.le_trans hbel.size hb5.size) hb6.size))⟩

theorem canonRises_walkI (A : Option Addr) (n c : Nat) (l : Nat → Int) (p : Int) (w : World) (h : IntsIn w .u16 A n l) (h1 : 0 ≤ p) (h2 : p ≤ 65535) :
    Calls Try.prog 12 #[.slice A n c, .int .u16 p] w fun e w' => e = .returned (.bool true) ∧ Below w.heap.size w w' := by
  obtain ⟨p, rfl⟩ := Int.eq_ofNat_of_zero_le h1
  exact canonRises_walk A n c l p w h (by omega)
end Go.Proofs.Ytcgoicijbmhmpaa
