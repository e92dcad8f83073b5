/-
  The walk of the law that averages lie between the values and add up.
-/
import Derived.Test.YtcgoicijbmhmpaaD12
namespace Go.Proofs.Ytcgoicijbmhmpaa
open Go.RowKit Go.Fl Go.Deep
attribute [local go_sem] run_store_float

theorem made_two (W : World) (N : Nat) : OwnG ((W.alloc (.cells (madeCells #[.float .f64 0] N) 22)).alloc (.cells (madeCells #[.float .f64 0] N) 22)).drew W.heap.size N (fun _ => 0) ∧
    OwnG ((W.alloc (.cells (madeCells #[.float .f64 0] N) 22)).alloc (.cells (madeCells #[.float .f64 0] N) 22)).drew (W.heap.size + 1) N (fun _ => 0) := by
  refine ⟨.of_row ((World.rowIs_made W (.float .f64 0) N 22).alloc _), ?_⟩
  have := World.rowIs_made (W.alloc (.cells (madeCells #[.float .f64 0] N) 22)) (.float .f64 0) N 22
  rw [World.size_alloc] at this
  exact .of_row this
theorem OwnG.other {W : World} {g n : Nat} {f : Nat → Nat} (h : OwnG W g n f) {b i : Nat} (hb : g ≠ b) (v : Value) : OwnG (W.setCell ⟨b, i, none⟩ v) g n f := by
  obtain ⟨c, F, hc, h, hf⟩ := h
  exact ⟨c, F, hc, h.setOther hb v, hf⟩
theorem OwnG.drew {W : World} {g n : Nat} {f : Nat → Nat} (h : OwnG W g n f) : OwnG W.drew g n f := h
theorem OwnG.drawn {W W' : World} {g n : Nat} {f : Nat → Nat} (h : OwnG W g n f) (hd : Drawn W W') : OwnG W' g n f := by obtain ⟨q, rfl⟩ := hd; exact h
/-- What the rows hold when j elements have been laid. -/
structure BetIn (w wr : World) (G G2 S T N N2 : Nat) (f g : Nat → Nat) (j : Nat) : Prop where
  og : OwnG wr G N f
  og2 : OwnG wr G2 N2 g
  os : OwnG wr S N (fun k => if k < j then g (k % N2) else 0)
  ot : OwnG wr T N (fun k => if k < j then fadd (f k) (g (k % N2)) else 0)
  bel : Below w.heap.size w wr
theorem BetIn.drawn {w wr W : World} {G G2 S T N N2 : Nat} {f g : Nat → Nat} {j : Nat} (h : BetIn w wr G G2 S T N N2 f g j) (hd : Drawn wr W) : BetIn w W G G2 S T N N2 f g j :=
  ⟨h.og.drawn hd, h.og2.drawn hd, h.os.drawn hd, h.ot.drawn hd, h.bel.trans (hd.below _)⟩

set_option maxRecDepth 100000 in
set_option maxHeartbeats 4000000 in
theorem canonBetween_walk (A A2 : Option Addr) (n c n2 d : Nat) (l l2 : Nat → Int) (p : Nat) (w : World) (h : IntsIn w .i32 A n l) (h2 : IntsIn w .i32 A2 n2 l2) (hp : p ≤ 65535) :
    Calls Try.prog 10 #[.slice A n c, .slice A2 n2 d, .int .u16 p] w fun e w' => e = .returned (.bool true) ∧ Below w.heap.size w w' := by
  obtain ⟨q, hq⟩ : ∃ q, q = p % 1025 := ⟨_, rfl⟩
  have hq1 : q ≤ 1024 := by omega
  have CH := Lib.hid (fun W => chance_c p hp W)
  rw [← hq] at CH
  have HL := Lib.hid (ch_lt hq1)
  have HP := Lib.hid (ch_prob hq1)
  have CP := Lib.hid (plain_c A n c l w h)
  have CP2 := Lib.hid (fun W (hb : Below w.heap.size w W) => plain_c A2 n2 d l2 W ⟨fun h0 => by obtain ⟨b, off, e, hlt, hc⟩ := h2.row h0; exact ⟨b, off, e, by have := hb.size; omega, fun j hj => (hb.cell (p := ⟨b, off + j, none⟩) hlt).trans (hc j hj)⟩, h2.wf, h2.len⟩)
  obtain ⟨mo1, mo2, mo3, mo4⟩ := most_whole h.wf
  obtain ⟨mr1, mr2, mr3, mr4⟩ := most_whole h2.wf
  have hI := fun k (hk : k < cnt n) => vals_int l h.wf hk
  have hI2 := fun k (hk : k < cnt n2) => vals_int l2 h2.wf hk
  have hN1 := cnt_pos n
  have hN2 := cnt_le n
  have hM1 := cnt_pos n2
  have hM2 := cnt_le n2
  have HK := Lib.hid (ok_abs (m := cnt n - 1) (by omega) (ch_lt hq1) (ch_prob hq1))
  have HA := Lib.hid (And.intro mo1 (And.intro mo2 (And.intro mo3 mo4)))
  have HB := Lib.hid (And.intro mr1 (And.intro mr2 (And.intro mr3 mr4)))
  have HI := Lib.hid hI
  have HI2 := Lib.hid hI2
  clear h h2 hq mo1 mo2 mo3 mo4 mr1 mr2 mr3 mr4 hI hI2
  go_enter Try.func10, Try.ntmps10
  go_wp2_with fail
  refine CP.out.mono ?_
  rintro e w1 ⟨⟨G, cc, rfl, hG, hown⟩, hb1⟩
  have O1 := Lib.hid (OwnG.of_own hown)
  clear hown CP
  go_wp2_with fail
  refine (CP2.out w1 hb1).mono ?_
  rintro e w2 ⟨⟨G2, cc2, rfl, hG2, hown2⟩, hb2⟩
  have O2 := Lib.hid (OwnG.of_own hown2)
  have O1a := Lib.hid (O1.out.below hb2 O1.out.lt)
  have hgg : G < G2 := Nat.lt_of_lt_of_le O1.out.lt hG2
  clear hown2 CP2 O1
  generalize mostW l (min n 400) = mo at *
  generalize mostW l2 (min n2 400) = mr at *
  generalize vals l n = f at *
  generalize vals l2 n2 = g at *
  generalize cnt n = N at *
  generalize cnt n2 = N2 at *
  go_wp2_with (go_at_call 38; refine (CH.out _).mono ?_; rintro e w' ⟨rfl, rfl⟩)
  refine (avg_call G N cc (ch q) f _ (Rat.le_trans HA.out.2.2.1 le_M31) w2 HA.out.2.2.2 O1a.out hN1 (by omega) HL.out HP.out).mono ?_
  rintro e w3 ⟨rfl, hb3⟩
  have O1b := Lib.hid (O1a.out.below hb3 O1a.out.lt)
  have O2b := Lib.hid (O2.out.below hb3 O2.out.lt)
  clear O1a O2
  have B3 := Lib.hid ((hb1.trans (hb2.mono hb1.size)).trans (hb3.mono (Nat.le_trans hb1.size hb2.size)))
  have S3 : G2 < w3.heap.size := O2b.out.lt
  have SG : w.heap.size ≤ G := hG
  clear hb1 hb2 hb3 hG hG2
  have c0 := O1b.out.cell (show 0 < N by omega)
  have l1 : (0 : Int) < (N : Int) := by omega
  go_wp2
  go_quiet (fail)
  have O1c := Lib.hid (O1b.out.below (Drawn.below ⟨nq, rfl⟩ w3.heap.size : Below w3.heap.size w3 (w3.drewN nq)) (by omega))
  have O2c := Lib.hid (O2b.out.below (Drawn.below ⟨nq, rfl⟩ w3.heap.size : Below w3.heap.size w3 (w3.drewN nq)) S3)
  have B4 := Lib.hid (B3.out.trans (Drawn.below ⟨nq, rfl⟩ w.heap.size : Below w.heap.size w3 (w3.drewN nq)))
  have S4 : G2 < (w3.drewN nq).heap.size := S3
  clear c0 O1b O2b B3 S3
  generalize w3.drewN nq = w4 at *
  have hmk : ∀ W, (Instr.makeSlice 24 (.int .i64 (N : Int)) (.int .i64 (N : Int))).run Try.prog W = .ok (.slice (some ⟨W.heap.size, 0, none⟩) N N) (W.alloc (.cells (madeCells #[.float .f64 0] N) 22)) := fun W => run_mk N (by omega) W
  go_wp2
  go_region
  rotate_left
  have hS := Lib.hid (made_two w4 N).2
  have hT := Lib.hid (made_two w4 N).1
  have B5 := Lib.hid ((((B4.out.alloc B4.out.size (.cells (madeCells #[.float .f64 0] N) 22))).alloc (by have := B4.out.size; simp; omega) (.cells (madeCells #[.float .f64 0] N) 22)).drew)
  have X1 := Lib.hid (((O1c.out.below ((Below.refl w4.heap.size w4).alloc (Nat.le_refl _) (.cells (madeCells #[.float .f64 0] N) 22)) O1c.out.lt).below (((Below.refl (w4.alloc (.cells (madeCells #[.float .f64 0] N) 22)).heap.size _).alloc (Nat.le_refl _) (.cells (madeCells #[.float .f64 0] N) 22)).drew) (by have := O1c.out.lt; simp; omega)))
  have X2 := Lib.hid (((O2c.out.below ((Below.refl w4.heap.size w4).alloc (Nat.le_refl _) (.cells (madeCells #[.float .f64 0] N) 22)) O2c.out.lt).below (((Below.refl (w4.alloc (.cells (madeCells #[.float .f64 0] N) 22)).heap.size _).alloc (Nat.le_refl _) (.cells (madeCells #[.float .f64 0] N) 22)).drew) (by have := O2c.out.lt; simp; omega)))
  have n1 : w4.heap.size + 1 ≠ w4.heap.size := by omega
  have n2' : G ≠ w4.heap.size + 1 := by omega
  have n3 : G ≠ w4.heap.size := by omega
  have n4 : G2 ≠ w4.heap.size + 1 := by omega
  have n5 : G2 ≠ w4.heap.size := by omega
  have m1 : w.heap.size ≤ w4.heap.size + 1 := by have := B4.out.size; omega
  have m2 : w.heap.size ≤ w4.heap.size := B4.out.size
  clear O1c O2c B4 S4 hmk
  generalize ((w4.alloc (.cells (madeCells #[.float .f64 0] N) 22)).alloc (.cells (madeCells #[.float .f64 0] N) 22)).drew = w5 at *
  generalize w4.heap.size + 1 = S at *
  generalize w4.heap.size = T at *
  rotate_left
  have hS := Lib.hid (made_two w4 N).1
  have hT := Lib.hid (made_two w4 N).2
  have B5 := Lib.hid ((((B4.out.alloc B4.out.size (.cells (madeCells #[.float .f64 0] N) 22))).alloc (by have := B4.out.size; simp; omega) (.cells (madeCells #[.float .f64 0] N) 22)).drew)
  have X1 := Lib.hid (((O1c.out.below ((Below.refl w4.heap.size w4).alloc (Nat.le_refl _) (.cells (madeCells #[.float .f64 0] N) 22)) O1c.out.lt).below (((Below.refl (w4.alloc (.cells (madeCells #[.float .f64 0] N) 22)).heap.size _).alloc (Nat.le_refl _) (.cells (madeCells #[.float .f64 0] N) 22)).drew) (by have := O1c.out.lt; simp; omega)))
  have X2 := Lib.hid (((O2c.out.below ((Below.refl w4.heap.size w4).alloc (Nat.le_refl _) (.cells (madeCells #[.float .f64 0] N) 22)) O2c.out.lt).below (((Below.refl (w4.alloc (.cells (madeCells #[.float .f64 0] N) 22)).heap.size _).alloc (Nat.le_refl _) (.cells (madeCells #[.float .f64 0] N) 22)).drew) (by have := O2c.out.lt; simp; omega)))
  have n1 : w4.heap.size ≠ w4.heap.size + 1 := by omega
  have n2' : G ≠ w4.heap.size := by omega
  have n3 : G ≠ w4.heap.size + 1 := by omega
  have n4 : G2 ≠ w4.heap.size := by omega
  have n5 : G2 ≠ w4.heap.size + 1 := by omega
  have m1 : w.heap.size ≤ w4.heap.size := B4.out.size
  have m2 : w.heap.size ≤ w4.heap.size + 1 := by have := B4.out.size; omega
  clear O1c O2c B4 S4 hmk
  generalize ((w4.alloc (.cells (madeCells #[.float .f64 0] N) 22)).alloc (.cells (madeCells #[.float .f64 0] N) 22)).drew = w5 at *
  generalize w4.heap.size + 1 = T at *
  generalize w4.heap.size = S at *
  all_goals
    have HB0 : Hid (BetIn w w5 G G2 S T N N2 f g 0) := ⟨X1.out, X2.out, hS.out.congr fun j _ => by rw [if_neg (by omega)], hT.out.congr fun j _ => by rw [if_neg (by omega)], B5.out⟩
    clear hS hT B5 X1 X2
    go_wp2
    go_loopw [13, 14, 53] (fun lo hi i wr => ∃ j : Nat, j ≤ N ∧ i = .int .i64 j ∧ lo = .float .f64 (lowW f j) ∧ hi = .float .f64 (highW f j) ∧ Hid (BetIn w wr G G2 S T N N2 f g j)) (fun _ _ i _ => N - (intOf i).toNat)
    case atStart => exact ⟨0, Nat.zero_le _, rfl, rfl, rfl, HB0⟩
    case round =>
      obtain ⟨j, hj, rfl, rfl, rfl, hin⟩ := hrel
      by_cases hjn : j < N
      · have c1 := hin.out.og.cell hjn
        obtain ⟨f1, _⟩ := HA.out.2.2.2 j hjn
        obtain ⟨lo1, _⟩ := low_ok (by omega) HA.out.2.2.2 j (by omega)
        obtain ⟨hi1, _⟩ := high_ok (by omega) HA.out.2.2.2 j (by omega)
        have rmin := fun W => run_min_float lo1 f1 Try.prog W
        have rmax := fun W => run_max_float hi1 f1 Try.prog W
        have lj : (j : Int) < (N : Int) := by omega
        clear lo1 hi1 f1
        go_wp2
        go_quiet (fail)
        have H6 := Lib.hid (hin.out.drawn ⟨nq, rfl⟩ : BetIn w (wr.drewN nq) G G2 S T N N2 f g j)
        clear hin c1 rmin rmax
        generalize wr.drewN nq = w6 at *
        have d1 := H6.out.og2.cell (Nat.mod_lt j (show N2 > 0 by omega))
        have d2 := H6.out.os.cell hjn
        have d3 := H6.out.os.frozen j
        have ez : ¬ N2 = 0 := by omega
        have er := Int.natCast_emod j N2
        have et : (j : Int).tmod (N2 : Int) = (j : Int) % (N2 : Int) := by rw [← er]; exact (Int.ofNat_tmod j N2).symm
        have hlt := Nat.mod_lt j (show N2 > 0 by omega)
        have r2 : (0 : Int) ≤ (j : Int) % (N2 : Int) := by rw [← er]; omega
        have r3 : (j : Int) % (N2 : Int) < (N2 : Int) := by rw [← er]; omega
        have r4 : ((j : Int) % (N2 : Int)).toNat = j % N2 := by rw [← er]; rfl
        clear er hlt
        go_wp2
        clear d1 d2 d3 et ez r2 r3 r4
        have HS := Lib.hid (H6.out.os.set j (g (j % N2)) (f' := fun q => if q < j + 1 then g (q % N2) else 0) (fun q _ => by
          by_cases h1 : q = j
          · rw [if_pos h1, if_pos (by omega), h1]
          · rw [if_neg h1]; by_cases h2 : q < j
            · rw [if_pos h2, if_pos (by omega)]
            · rw [if_neg h2, if_neg (by omega)]))
        have HT := Lib.hid (H6.out.ot.other (i := j) (Ne.symm n1) (.float .f64 (g (j % N2))))
        have HG1 := Lib.hid (H6.out.og.other (i := j) n2' (.float .f64 (g (j % N2))))
        have HG2 := Lib.hid (H6.out.og2.other (i := j) n4 (.float .f64 (g (j % N2))))
        have HBl := Lib.hid (H6.out.bel.setCell (p := ⟨S, j, none⟩) m1 (.float .f64 (g (j % N2))))
        clear H6
        generalize w6.setCell ⟨S, j, none⟩ (.float .f64 (g (j % N2))) = w7 at *
        have d1 := HG1.out.cell hjn
        have d2 : w7.cell? ⟨S, j, none⟩ = some (.float .f64 (g (j % N2))) := by have := HS.out.cell hjn; rw [if_pos (by omega)] at this; exact this
        have d3 := HT.out.cell hjn
        have d4 := HT.out.frozen j
        obtain ⟨xi, xa, xb, xc, xd⟩ := HI.out j hjn
        obtain ⟨yi, ya, yb, yc, yd⟩ := HI2.out (j % N2) (Nat.mod_lt j (show N2 > 0 by omega))
        have hadd := fun ty W => run_float_arith (P := Try.prog) W .add ty .f64 _ _ _ (whole_sum ⟨xa, xb⟩ ⟨ya, yb⟩ xc yc xd yd).1
        clear xa xb xc xd ya yb yc yd
        go_region
        have HT2 := Lib.hid ((HT.out.set j (fadd (f j) (g (j % N2))) (f' := fun q => if q < j + 1 then fadd (f q) (g (q % N2)) else 0) (fun q _ => by
          by_cases h1 : q = j
          · rw [if_pos h1, if_pos (by omega), h1]
          · rw [if_neg h1]; by_cases h2 : q < j
            · rw [if_pos h2, if_pos (by omega)]
            · rw [if_neg h2, if_neg (by omega)])).drew)
        have HS2 := Lib.hid ((HS.out.other (i := j) n1 (.float .f64 (fadd (f j) (g (j % N2))))).drew)
        have HG12 := Lib.hid ((HG1.out.other (i := j) n3 (.float .f64 (fadd (f j) (g (j % N2))))).drew)
        have HG22 := Lib.hid ((HG2.out.other (i := j) n5 (.float .f64 (fadd (f j) (g (j % N2))))).drew)
        have HBl2 := Lib.hid ((HBl.out.setCell (p := ⟨T, j, none⟩) m2 (.float .f64 (fadd (f j) (g (j % N2))))).drew)
        clear HT HS HG1 HG2 HBl d1 d2 d3 d4 hadd
        go_wp2
        go_roundw
        case rel => exact ⟨j + 1, by omega, by go_num, rfl, rfl, ⟨HG12.out, HG22.out, HS2.out, HT2.out, HBl2.out⟩⟩
        case measure => simp [intOf]; omega
      · have hjN : j = N := by omega
        have lj : ¬ (j : Int) < (N : Int) := by omega
        have E1 := Lib.hid hin.out.og
        have E2 := Lib.hid (hin.out.os.congr (f' := fun k => g (k % N2)) fun k hk => by rw [if_pos (by omega)])
        have E3 := Lib.hid (hin.out.ot.congr (f' := fun k => fadd (f k) (g (k % N2))) fun k hk => by rw [if_pos (by omega)])
        have hbel := hin.out.bel
        have hmod : ∀ k, k % N2 < N2 := fun k => Nat.mod_lt k (by omega)
        have hsum : ∀ k, k < N → isFin (fadd (f k) (g (k % N2))) ∧ fv (fadd (f k) (g (k % N2))) = fv (f k) + fv (g (k % N2)) := fun k hk => by
          obtain ⟨xi, xa, xb, xc, xd⟩ := HI.out k hk
          obtain ⟨yi, ya, yb, yc, yd⟩ := HI2.out (k % N2) (hmod k)
          exact (whole_sum ⟨xa, xb⟩ ⟨ya, yb⟩ xc yc xd yd).2
        have W2 := Lib.hid (show Whole (fun k => g (k % N2)) N (fv mr) from fun k _ => HB.out.2.2.2 (k % N2) (hmod k))
        have W3 := Lib.hid (show Whole (fun k => fadd (f k) (g (k % N2))) N (fv mo + fv mr) from fun k hk => by
          obtain ⟨x, y⟩ := hsum k hk
          have a1 := abs_le (HA.out.2.2.2 k hk).2
          have a2 := abs_le (W2.out k hk).2
          exact ⟨x, by rw [y]; exact abs_of (by grind) (by grind)⟩)
        have hM2 : fv mr ≤ 1267650600228229401496703205376 := Rat.le_trans HB.out.2.2.1 le_M31
        have hM3 : fv mo + fv mr ≤ 1267650600228229401496703205376 := Rat.le_trans (show fv mo + fv mr ≤ 8589934592 by have := HA.out.2.2.1; have := HB.out.2.2.1; grind) M33
        obtain ⟨L1, L2, L3⟩ := low_ok (by omega) HA.out.2.2.2 j (by omega)
        obtain ⟨U1, U2, U3⟩ := high_ok (by omega) HA.out.2.2.2 j (by omega)
        have A1 := low_near (f := f) HK.out (by omega) HA.out.1 rfl HA.out.2.1 HA.out.2.2.1 (by rw [show N - 1 + 1 = N by omega]; exact HA.out.2.2.2) L1 L2 (fun k hk => L3 k (by omega))
        have A2' := high_near (f := f) HK.out (by omega) HA.out.1 rfl HA.out.2.1 HA.out.2.2.1 (by rw [show N - 1 + 1 = N by omega]; exact HA.out.2.2.2) U1 U2 (fun k hk => U3 k (by omega))
        have A3 := add_near (f := f) (g := fun k => g (k % N2)) (s := fun k => fadd (f k) (g (k % N2))) HK.out (by omega) HA.out.1 HB.out.1 rfl rfl HA.out.2.1 HB.out.2.1 HA.out.2.2.1 HB.out.2.2.1 (by rw [show N - 1 + 1 = N by omega]; exact HA.out.2.2.2) (by rw [show N - 1 + 1 = N by omega]; exact W2.out) (fun k hk => hsum k (by omega))
        have Q1 := Lib.hid A1
        have Q2 := Lib.hid A2'
        have Q3 := Lib.hid A3
        have HM2 := Lib.hid hM2
        have HM3 := Lib.hid hM3
        clear hin hmod hsum L1 L2 L3 U1 U2 U3 A1 A2' A3 hM2 hM3 HI HI2 hjN
        go_wp2_with (go_at_call 38; refine (CH.out _).mono ?_; rintro e w' ⟨rfl, rfl⟩)
        refine (avg_call S N N (ch q) _ _ HM2.out wr W2.out E2.out hN1 (by omega) HL.out HP.out).mono ?_
        rintro e w8 ⟨rfl, hb8⟩
        have E4 := Lib.hid (E3.out.below hb8 E3.out.lt)
        clear E1 E2 E3
        go_wp2_with (go_at_call 38; refine (CH.out _).mono ?_; rintro e w' ⟨rfl, rfl⟩)
        refine (avg_call T N N (ch q) _ _ HM3.out w8 W3.out E4.out hN1 (by omega) HL.out HP.out).mono ?_
        rintro e w9 ⟨rfl, hb9⟩
        obtain ⟨p1, p2, p3⟩ := Q1.out
        obtain ⟨_, p4, p5⟩ := Q2.out
        obtain ⟨p6, p7, p8, p9, p10⟩ := Q3.out
        have o1 := fun ty W => run_float_arith (P := Try.prog) W .mul ty .f64 _ _ _ p1
        have o2 := fun ty W => run_float_arith (P := Try.prog) W .sub ty .f64 _ _ _ p2
        have o3 := fun ty W => run_float_arith (P := Try.prog) W .add ty .f64 _ _ _ p4
        have o4 := fun ty W => run_float_arith (P := Try.prog) W .add ty .f64 _ _ _ p6
        have o5 := fun ty W => run_float_arith (P := Try.prog) W .add ty .f64 _ _ _ p7
        have CN := Lib.hid (fun W => near_c _ _ _ W p8 p9 p10)
        clear p1 p2 p4 p6 p7 p8 p9 p10 Q1 Q2 Q3 E4 W2 W3
        generalize avg (fun k => fadd (f k) (g (k % N2))) (N - 1) (absb (ch q)) = a3 at *
        generalize avg (fun k => g (k % N2)) (N - 1) (absb (ch q)) = a2 at *
        generalize avg f (N - 1) (absb (ch q)) = a1 at *
        generalize lowW f j = lw at *
        generalize highW f j = hw at *
        generalize hti : fmul tinyW mo = ti at *
        clear hti
        unfold tinyW at o1
        have p3' : (FloatKind.f64.format.order a1 (fsub lw ti) == some Ordering.gt || FloatKind.f64.format.order a1 (fsub lw ti) == some Ordering.eq) = true := p3
        have p5' : (FloatKind.f64.format.order a1 (fadd hw ti) == some Ordering.lt || FloatKind.f64.format.order a1 (fadd hw ti) == some Ordering.eq) = true := p5
        clear p3 p5
        go_wp2_with (first | (go_at_call 39; refine (CN.out _).mono ?_; rintro e w' ⟨rfl, rfl⟩) | (go_at_call 27; refine (works_any _).mono ?_; rintro e w10 ⟨rfl, hb10⟩))
        go_ret
        exact ⟨rfl, ((hbel.trans (hb8.mono hbel.size)).trans (hb9.mono (Nat.le_trans hbel.size hb8.size))).trans (hb10.mono (Nat.le_trans (Nat.le_trans hbel.size hb8.size) hb9.size))⟩

theorem canonBetween_walkI (A A2 : Option Addr) (n c n2 d : Nat) (l l2 : Nat → Int) (p : Int) (w : World) (h : IntsIn w .i32 A n l) (h2 : IntsIn w .i32 A2 n2 l2) (h3 : 0 ≤ p) (h4 : p ≤ 65535) :
    Calls Try.prog 10 #[.slice A n c, .slice A2 n2 d, .int .u16 p] w fun e w' => e = .returned (.bool true) ∧ Below w.heap.size w w' := by
  obtain ⟨p, rfl⟩ := Int.eq_ofNat_of_zero_le h3
  exact canonBetween_walk A A2 n c n2 d l l2 p w h h2 (by omega)
end Go.Proofs.Ytcgoicijbmhmpaa
