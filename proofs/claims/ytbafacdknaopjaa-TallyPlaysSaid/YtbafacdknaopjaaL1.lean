/-
  The walk of TallyUnites.
-/
import Derived.Test.YtbafacdknaopjaaF6
namespace Go.Proofs.Ytbafacdknaopjaa
open Go.RowKit
set_option linter.unusedSimpArgs false
set_option linter.unusedSectionVars false

theorem roots_fold_le {n : Nat} {lab : Nat → Nat} (h : Labs n lab) {l : List (Nat × Nat)} (hl : ∀ p ∈ l, p.1 < n ∧ p.2 < n) : roots n (l.foldl uni lab) ≤ roots n lab := by
  have := wins_roots l h hl
  omega
theorem Only.below {w w' : World} (h : Only [] w w') : Below w.heap.size w w' := ⟨h.os, h.tape, h.output, h.size, fun k hk => h.block k hk (by simp)⟩
theorem ints_moved {w W : World} {A : Option Addr} {n : Nat} {f : Nat → Int} {k : IntKind} (h : IntsIn w k A n f) (o : Only [] w W) : IntsIn W k A n f := h.only o

theorem largest_le (n : Nat) (lab wt : Nat → Nat) : largest n lab wt ≤ (total n wt : Nat) := maxL_le (by omega) fun v hv => by
  obtain ⟨a, _, _, rfl⟩ := setsL_mem hv
  have := sumOf_le n lab wt a
  omega
theorem squares_le (n : Nat) (lab wt : Nat → Nat) (h : Labs n lab) : squares n lab wt ≤ total n wt * total n wt := by
  obtain ⟨T, h1, h2⟩ := sqL_le (l := setsL n lab wt) fun v hv => by obtain ⟨_, _, _, rfl⟩ := setsL_mem hv; omega
  rw [setsL_sum fun a ha => ⟨h.lt ha, (h a ha).2⟩] at h1
  rw [sqL_sets] at h2
  have e : T = total n wt := by omega
  rw [← e]; exact h2
section
variable {n : Nat} {lab wt : Nat → Nat} {a b : Int}
theorem unites_out (hab : ¬ ((0 ≤ a ∧ a < n) ∧ (0 ≤ b ∧ b < n))) : okU n lab a b = false ∧ erU n a b = 3 ∧ stepU n lab a b = lab := by
  have hi : (inR n a && inR n b) = false := by
    rw [Bool.and_eq_false_iff]
    by_cases ha : 0 ≤ a ∧ a < n
    · exact .inr (by unfold inR; exact decide_eq_false fun hb => hab ⟨ha, hb⟩)
    · exact .inl (by unfold inR; exact decide_eq_false ha)
  unfold okU erU stepU
  rw [hi]
  exact ⟨rfl, rfl, rfl⟩
variable (h : Labs n lab)
include h
theorem unites_same (hab : (0 ≤ a ∧ a < n) ∧ (0 ≤ b ∧ b < n)) (he : lab a.toNat = lab b.toNat) : okU n lab a b = false ∧ erU n a b = 0 ∧ stepU n lab a b = lab ∧ wgt n lab wt a = wgt n lab wt b := by
  have hi : (inR n a && inR n b) = true := by rw [inR_iff.2 hab.1, inR_iff.2 hab.2]; rfl
  unfold okU erU stepU
  rw [hi, if_pos rfl, if_pos rfl, Bool.true_and]
  exact ⟨decide_eq_false fun e => e he, rfl, uni_same he, by unfold wgt; rw [if_pos hab.1, if_pos hab.2, he]⟩
theorem unites_diff (hab : (0 ≤ a ∧ a < n) ∧ (0 ≤ b ∧ b < n)) (he : lab a.toNat ≠ lab b.toNat) : okU n lab a b = true ∧ erU n a b = 0 ∧
    wgt n (stepU n lab a b) wt a = wgt n lab wt a + wgt n lab wt b ∧ wgt n (stepU n lab a b) wt b = wgt n lab wt a + wgt n lab wt b ∧ roots n (stepU n lab a b) + 1 = roots n lab ∧ squares n (stepU n lab a b) wt = squares n lab wt + 2 * (wgt n lab wt a * wgt n lab wt b) ∧
    largest n (stepU n lab a b) wt = max (largest n lab wt) (wgt n lab wt a + wgt n lab wt b : Nat) := by
  have hi : (inR n a && inR n b) = true := by rw [inR_iff.2 hab.1, inR_iff.2 hab.2]; rfl
  obtain ⟨f1, f2, f3, f4⟩ := uni_facts h wt (a := a.toNat) (b := b.toNat) (by omega) (by omega) he
  have f5 := roots_uni h (p := (a.toNat, b.toNat)) (by omega) (by omega) he
  unfold okU erU stepU wgt
  rw [hi, if_pos rfl, if_pos rfl, Bool.true_and, if_pos hab.1, if_pos hab.2, if_pos hab.1, if_pos hab.2]
  refine ⟨decide_eq_true he, rfl, f1, ?_, f5, f3, f4⟩
  rw [← f2]; exact f1
end

set_option maxRecDepth 100000 in
set_option maxHeartbeats 8000000 in
theorem tallyUnites_walk (A B : Option Addr) (nl c m d : Nat) (f g1 g2 : Nat → Int) (a b : Int) (w : World) (h : IntsIn w .u16 A nl f) (hg : PairsIn w .u8 B m g1 g2) :
    Calls Try.prog 3 #[.slice A nl c, .slice B m d, .int .i64 a, .int .i64 b] w fun e w' => e = .returned (.bool true) ∧ Below w.heap.size w w' := by
  have CW := Lib.hid (fun W => works_any W)
  have CM := Lib.hid (made_any A nl c f w h)
  have HG := Lib.hid hg
  have hml := hg.len
  unfold maxLen at hml
  clear h hg
  go_enter Try.func3, Try.ntmps3
  go_wp2_with fail
  refine CM.out.mono ?_
  rintro e w1 ⟨F, T, v, rfl, hot, A', c', rfl, hwt⟩
  have H1 := Lib.hid hot
  have hn60 : min nl 60 ≤ 60 := Nat.min_le_right _ _
  obtain ⟨n, hn⟩ : ∃ n, min nl 60 = n := ⟨_, rfl⟩
  rw [hn] at H1 hn60 ⊢
  clear hwt hot hn
  obtain ⟨wt, hwt⟩ : ∃ wt, wtOf f = wt := ⟨_, rfl⟩
  rw [hwt] at H1
  clear hwt
  have CU := Lib.hid (unite_any B T n m d false g1 g2 id wt F w1 (fun W F' hm => HG.out.only (H1.out.only.to hm.only fun i hi hlt => by have := H1.out.new i hi; omega)) H1.out.at_)
  go_wp2_with fail
  refine CU.out.mono ?_
  rintro e w2 ⟨rfl, F2, ht, hm⟩
  have H2 := Lib.hid (H1.out.moves ht hm)
  have hle := roots_fold_le (lab := id) (Labs.id n) (prs_lt (n := n) (m := m) (f := g1) (g := g2))
  have hid := roots_id n
  obtain ⟨lab, hlab⟩ : ∃ lab, (prs n m g1 g2).foldl uni id = lab := ⟨_, rfl⟩
  rw [hlab] at H2 hle ⊢
  clear ht hm hlab H1 CU CM HG
  rw [hid] at hle ⊢
  clear hid
  have hL := H2.out.at_.labs
  have htot := H2.out.at_.low
  have hx := wgt_le n lab wt a
  have hy := wgt_le n lab wt b
  have FS := Lib.hid (unites_same (wt := wt) (a := a) (b := b) hL)
  have FD := Lib.hid (unites_diff (wt := wt) (a := a) (b := b) hL)
  have FO := Lib.hid (unites_out (lab := lab) (n := n) (a := a) (b := b))
  have hsq := squares_le n lab wt hL
  have hlg := maxL_nonneg (setsL n lab wt)
  have hlg2 := largest_le n lab wt
  obtain ⟨x, hxe⟩ : ∃ x, wgt n lab wt a = x := ⟨_, rfl⟩
  obtain ⟨y, hye⟩ : ∃ y, wgt n lab wt b = y := ⟨_, rfl⟩
  obtain ⟨cn, hcn⟩ : ∃ cn, roots n lab = cn := ⟨_, rfl⟩
  obtain ⟨sq, hsqe⟩ : ∃ sq, squares n lab wt = sq := ⟨_, rfl⟩
  obtain ⟨lg, hlge⟩ : ∃ lg, largest n lab wt = lg := ⟨_, rfl⟩
  rw [show maxL (setsL n lab wt) = lg from hlge] at hlg
  rw [hxe] at hx FS FD
  rw [hye] at hy FS FD
  rw [hcn] at hle FD ⊢
  rw [hsqe] at hsq FD
  rw [hlge] at hlg2 FD
  have HE := Lib.hid (And.intro hxe (And.intro hye (And.intro hcn (And.intro hsqe hlge))))
  clear hL hxe hye hcn hsqe hlge
  go_wp2_with fail
  refine (TWeight H2.out.at_ a).mono ?_
  rintro e w3 ⟨rfl, ht, ho⟩
  have H3 := Lib.hid (H2.out.stay ht ho)
  rw [HE.out.1]
  clear ht ho H2
  go_wp2_with fail
  refine (TWeight H3.out.at_ b).mono ?_
  rintro e w4 ⟨rfl, ht, ho⟩
  have H4 := Lib.hid (H3.out.stay ht ho)
  rw [HE.out.2.1]
  clear ht ho H3
  go_wp2_with fail
  refine (TCount H4.out.at_).mono ?_
  rintro e w' ⟨rfl, rfl⟩
  rw [HE.out.2.2.1]
  go_wp2_with fail
  refine (TSquares H4.out.at_).mono ?_
  rintro e w5 ⟨rfl, hO⟩
  have H5 := Lib.hid (H4.out.keep hO)
  rw [HE.out.2.2.2.1]
  clear hO H4
  go_wp2_with fail
  refine (TLargest H5.out.at_).mono ?_
  rintro e w6 ⟨rfl, hO⟩
  have H6 := Lib.hid (H5.out.keep hO)
  rw [HE.out.2.2.2.2]
  clear hO H5
  go_wp2_with fail
  refine (TUnionI H6.out.at_ a b).mono ?_
  rintro e w7 ⟨rfl, F7, ht, ho, hg⟩
  have H7 := Lib.hid (H6.out.step ht ho hg)
  clear ht ho hg H6
  by_cases hin : (0 ≤ a ∧ a < n) ∧ (0 ≤ b ∧ b < n)
  · obtain ⟨⟨ha0, han⟩, hb0, hbn⟩ := hin
    by_cases he : lab a.toNat = lab b.toNat
    · obtain ⟨e1, e2, e3, e4⟩ := FS.out ⟨⟨ha0, han⟩, hb0, hbn⟩ he
      rw [e1, e2]
      rw [e3] at H7
      subst e4
      clear e1 e2 e3 FS FD FO he
      go_wp2_with fail
      refine (TWeight H7.out.at_ a).mono ?_
      rintro e w8 ⟨rfl, ht, ho⟩
      have H8 := Lib.hid (H7.out.stay ht ho)
      rw [HE.out.1]
      clear ht ho H7
      go_wp2_with fail
      refine (TCount H8.out.at_).mono ?_
      rintro e w' ⟨rfl, rfl⟩
      rw [HE.out.2.2.1]
      go_wp2_with fail
      refine (TSquares H8.out.at_).mono ?_
      rintro e w9 ⟨rfl, hO⟩
      have H9 := Lib.hid (H8.out.keep hO)
      rw [HE.out.2.2.2.1]
      clear hO H8
      go_wp2_with fail
      refine (TLargest H9.out.at_).mono ?_
      rintro e w10 ⟨rfl, hO⟩
      have H10 := Lib.hid (H9.out.keep hO)
      rw [HE.out.2.2.2.2]
      clear hO H9
      go_wp2_with fail
      refine (CW.out _).mono ?_
      rintro e w11 ⟨rfl, hO⟩
      have H11 := Lib.hid (H10.out.keep hO)
      clear hO H10
      go_wp2_with fail
      go_ret
      exact ⟨rfl, H11.out.only.below⟩
    · obtain ⟨e1, e2, e3, e4, e5, e6, e7⟩ := FD.out ⟨⟨ha0, han⟩, hb0, hbn⟩ he
      rw [e1, e2]
      have hs2 := squares_le n (stepU n lab a b) wt H7.out.at_.labs
      have hT : total n wt * total n wt ≤ 3037000499 * 3037000499 := Nat.mul_le_mul htot htot
      rw [e6] at hs2
      have exy : 2 * (x : Int) * (y : Int) = ((2 * (x * y) : Nat) : Int) := by rw [Int.mul_assoc]; rfl
      have b1 : 0 ≤ 2 * (x : Int) * (y : Int) := by omega
      have b2 : (sq : Int) + 2 * (x : Int) * (y : Int) ≤ 9223372036854775807 := by omega
      have b3 : 2 * (x : Int) * (y : Int) ≤ 9223372036854775807 := by omega
      have E1 : ((squares n (stepU n lab a b) wt : Nat) : Int) = (sq : Int) + 2 * (x : Int) * (y : Int) := by rw [e6, exy]; rfl
      have E2 : ((roots n (stepU n lab a b) : Nat) : Int) = (cn : Int) - 1 := by omega
      have E3 : ((wgt n (stepU n lab a b) wt a : Nat) : Int) = (x : Int) + (y : Int) := by rw [e3]; rfl
      have E4 : ((wgt n (stepU n lab a b) wt b : Nat) : Int) = (x : Int) + (y : Int) := by rw [e4]; rfl
      have E5 : largest n (stepU n lab a b) wt = if lg ≤ (x : Int) + (y : Int) then (x : Int) + (y : Int) else lg := by
        rw [e7]; split <;> omega
      have E := Lib.hid (And.intro E3 (And.intro E4 (And.intro E2 (And.intro E1 E5))))
      clear e1 e2 e3 e4 e5 e6 e7 FS FD FO he E1 E2 E3 E4 E5 hs2 hT exy hsq
      by_cases hmx : lg ≤ (x : Int) + (y : Int)
      · rw [if_pos hmx] at E
        go_wp2_with fail
        refine (TWeight H7.out.at_ a).mono ?_
        rintro e w8 ⟨rfl, ht, ho⟩
        have H8 := Lib.hid (H7.out.stay ht ho)
        rw [E.out.1]
        clear ht ho H7
        go_wp2_with fail
        refine (TWeight H8.out.at_ b).mono ?_
        rintro e w9 ⟨rfl, ht, ho⟩
        have H9 := Lib.hid (H8.out.stay ht ho)
        rw [E.out.2.1]
        clear ht ho H8
        go_wp2_with fail
        refine (TCount H9.out.at_).mono ?_
        rintro e w' ⟨rfl, rfl⟩
        rw [E.out.2.2.1]
        go_wp2_with fail
        refine (TSquares H9.out.at_).mono ?_
        rintro e w10 ⟨rfl, hO⟩
        have H10 := Lib.hid (H9.out.keep hO)
        rw [E.out.2.2.2.1]
        clear hO H9
        go_wp2_with fail
        refine (TLargest H10.out.at_).mono ?_
        rintro e w11 ⟨rfl, hO⟩
        have H11 := Lib.hid (H10.out.keep hO)
        rw [E.out.2.2.2.2]
        clear hO H10
        go_wp2_with fail
        all_goals
          refine (CW.out _).mono ?_
          rintro e w12 ⟨rfl, hO⟩
          have H12 := Lib.hid (H11.out.keep hO)
          clear hO H11
          go_wp2_with fail
          go_ret
          exact ⟨rfl, H12.out.only.below⟩
      · rw [if_neg hmx] at E
        go_wp2_with fail
        refine (TWeight H7.out.at_ a).mono ?_
        rintro e w8 ⟨rfl, ht, ho⟩
        have H8 := Lib.hid (H7.out.stay ht ho)
        rw [E.out.1]
        clear ht ho H7
        go_wp2_with fail
        refine (TWeight H8.out.at_ b).mono ?_
        rintro e w9 ⟨rfl, ht, ho⟩
        have H9 := Lib.hid (H8.out.stay ht ho)
        rw [E.out.2.1]
        clear ht ho H8
        go_wp2_with fail
        refine (TCount H9.out.at_).mono ?_
        rintro e w' ⟨rfl, rfl⟩
        rw [E.out.2.2.1]
        go_wp2_with fail
        refine (TSquares H9.out.at_).mono ?_
        rintro e w10 ⟨rfl, hO⟩
        have H10 := Lib.hid (H9.out.keep hO)
        rw [E.out.2.2.2.1]
        clear hO H9
        go_wp2_with fail
        refine (TLargest H10.out.at_).mono ?_
        rintro e w11 ⟨rfl, hO⟩
        have H11 := Lib.hid (H10.out.keep hO)
        rw [E.out.2.2.2.2]
        clear hO H10
        go_wp2_with fail
        all_goals
          refine (CW.out _).mono ?_
          rintro e w12 ⟨rfl, hO⟩
          have H12 := Lib.hid (H11.out.keep hO)
          clear hO H11
          go_wp2_with fail
          go_ret
          exact ⟨rfl, H12.out.only.below⟩
  · obtain ⟨e1, e2, e3⟩ := FO.out hin
    rw [e1, e2]
    rw [e3] at H7
    clear e1 e2 e3 FS FD FO
    go_wp2_with fail
    all_goals
      go_wp2_with fail
      refine (TCount H7.out.at_).mono ?_
      rintro e w' ⟨rfl, rfl⟩
      rw [HE.out.2.2.1]
      go_wp2_with fail
      refine (TSquares H7.out.at_).mono ?_
      rintro e w8 ⟨rfl, hO⟩
      have H8 := Lib.hid (H7.out.keep hO)
      rw [HE.out.2.2.2.1]
      clear hO H7
      go_wp2_with fail
      refine (TWeight H8.out.at_ a).mono ?_
      rintro e w9 ⟨rfl, ht, ho⟩
      have H9 := Lib.hid (H8.out.stay ht ho)
      rw [HE.out.1]
      clear ht ho H8
      go_wp2_with fail
      refine (CW.out _).mono ?_
      rintro e w10 ⟨rfl, hO⟩
      have H10 := Lib.hid (H9.out.keep hO)
      clear hO H9
      go_wp2_with fail
      go_ret
      exact ⟨rfl, H10.out.only.below⟩
end Go.Proofs.Ytbafacdknaopjaa
