/-
  The walk of TallyEven.
-/
import Derived.Test.YtbafacdknaopjaaM1
namespace Go.Proofs.Ytbafacdknaopjaa
open Go.RowKit
set_option linter.unusedSimpArgs false
set_option linter.unusedSectionVars false

def oneF : Nat → Int := fun _ => 1
theorem code_ones {n : Nat} (hn : n ≤ 300) : newCode n oneF = 0 := by
  refine newCode_ok (by omega) (fun j hj => ⟨by unfold oneF; omega, by unfold oneF; omega⟩) ?_
  have : total n (wtOf oneF) = total n (fun _ => 1) := total_congr fun a _ => rfl
  rw [this, total_ones]
  omega
theorem wt_ones : wtOf oneF = fun _ => 1 := rfl

set_option maxRecDepth 100000 in
set_option maxHeartbeats 8000000 in
theorem tallyEven_walk (s : Int) (B : Option Addr) (m d : Nat) (g1 g2 : Nat → Int) (a : Int) (w : World) (hs0 : 0 ≤ s) (hs1 : s ≤ 65535) (hg : PairsIn w .u8 B m g1 g2) :
    Calls Try.prog 9 #[.int .u16 s, .slice B m d, .int .i64 a] w fun e w' => e = .returned (.bool true) ∧ Below w.heap.size w w' := by
  have CW := Lib.hid (fun W => works_any W)
  obtain ⟨i0, hi, hz0, hz1, hz2⟩ := infoI64
  have HG := Lib.hid hg
  have hml := hg.len
  unfold maxLen at hml
  obtain ⟨n, hn, hn2⟩ : ∃ n : Nat, s % 301 = (n : Int) ∧ n ≤ 300 := ⟨(s % 301).toNat, by omega, by omega⟩
  clear hg
  go_enter Try.func9, Try.ntmps9
  go_wp2_with fail
  rw [hn]
  clear hn
  go_loopw [8, 9] (fun v i wr => ∃ k : Nat, k ≤ n ∧ i = .int .i64 k ∧ Hid (Listed w oneF k v wr)) (fun _ i _ => n - (intOf i).toNat)
  case atStart => exact ⟨0, Nat.zero_le _, rfl, Lib.hid ⟨World.ownsRow_nil _ _ _ _, Below.refl _ _⟩⟩
  case round =>
    obtain ⟨k, hk, rfl, hL⟩ := hrel
    by_cases hlt : k < n
    · have hown := hL.out.1
      have hsz := hL.out.2.size
      go_wp2_with (at_builtin; refine wpList_append_own _ rfl _ _ 25 rfl w.heap.size 2 i0 (.int .i64 0) 1 8 Try.underlying25 hi hz0 hz1 hz2 rfl (by decide) _ _ _ rfl (hown.alloc _) ⟨wr.heap.size, 0, none⟩ 1 1 [.int .i64 1] rfl rfl (cell_one_at _ _ _) (by simp [Value.oneCell']) (by unfold maxLen; omega) (by omega) (by simp; omega) ?_; intro v' w1 hown' hgrow _; have HN := Lib.hid (hL.out.next hown' hgrow); clear hown' hgrow hown)
      go_roundw
      case rel => exact ⟨k + 1, by omega, by go_num, HN⟩
      case measure => simp [intOf]; omega
    · obtain rfl : k = n := by omega
      obtain ⟨A', c', rfl, hI⟩ := ints_own hL.out.1 fun j _ => (show (Lit.int .i64 1).wf = true by decide)
      have hO := only_of_below' hL.out.2
      have CN := Lib.hid (TNew (c := c') hI (code_ones hn2))
      have HO := Lib.hid hO
      clear hI hO hL
      go_wp2_with fail
      refine CN.out.mono ?_
      rintro e w1 ⟨F, T, rfl, ht, hF, hO1⟩
      have H1 := Lib.hid (OwnTal.made HO.out ht hF hO1)
      rw [wt_ones] at H1
      clear ht hF hO1 CN HO
      go_wp2_with fail
      refine (TEven k (by omega) w1).mono ?_
      rintro e w3 ⟨F', T', rfl, ht, hF, hO1⟩
      have H3 := Lib.hid (Duo.mk2 H1.out ⟨ht, hF, hO1⟩)
      clear ht hF hO1 H1
      obtain ⟨wt, hwt⟩ : ∃ wt : Nat → Nat, (fun _ => 1) = wt := ⟨_, rfl⟩
      rw [hwt] at H3
      clear hwt
      go_wp2_with fail
      refine (unite_any B _ k m d false g1 g2 _ wt _ w3 (fun W F' hm => HG.out.only (H3.out.only.to hm.only fun i hi hlt => by have := H3.out.left.new i hi; omega)) H3.out.left.at_).mono ?_
      rintro e w4 ⟨rfl, F4, ht, hm⟩
      have H4 := Lib.hid (H3.out.stepL ht hm.only hm.grew)
      clear ht hm H3
      go_wp2_with fail
      refine (unite_any B _ k m d false g1 g2 _ wt _ w4 (fun W F' hm => HG.out.only (H4.out.only.to hm.only fun i hi hlt => by have := H4.out.right.new i hi; omega)) H4.out.right.at_).mono ?_
      rintro e w5 ⟨rfl, F5, ht, hm⟩
      have H5 := Lib.hid (H4.out.stepR ht hm.only hm.grew)
      clear ht hm H4
      have hle := roots_fold_le (lab := id) (Labs.id k) (prs_lt (n := k) (m := m) (f := g1) (g := g2))
      have hid := roots_id k
      obtain ⟨lab, hlab⟩ : ∃ lab, (prs k m g1 g2).foldl uni id = lab := ⟨_, rfl⟩
      rw [hlab] at H5 hle ⊢
      rw [hid] at hle ⊢
      clear hlab hid
      have hll : ((bagOf (setsL k lab wt)).take 301).length ≤ 2147483647 := by rw [List.length_take]; omega
      go_wp2_with fail
      refine (TCount H5.out.left.at_).mono ?_
      rintro e w' ⟨rfl, rfl⟩
      go_wp2_with fail
      refine (TCount H5.out.right.at_).mono ?_
      rintro e w' ⟨rfl, rfl⟩
      go_wp2_with fail
      refine (TSquares H5.out.left.at_).mono ?_
      rintro e w6 ⟨rfl, hO⟩
      have H6 := Lib.hid (H5.out.keep hO)
      clear hO H5
      go_wp2_with fail
      refine (TSquares H6.out.right.at_).mono ?_
      rintro e w7 ⟨rfl, hO⟩
      have H7 := Lib.hid (H6.out.keep hO)
      clear hO H6
      go_wp2_with fail
      refine (TWeight H7.out.left.at_ a).mono ?_
      rintro e w8 ⟨rfl, ht, ho⟩
      have H8 := Lib.hid (H7.out.stayL ht ho)
      clear ht ho H7
      go_wp2_with fail
      refine (TWeight H8.out.right.at_ a).mono ?_
      rintro e w9 ⟨rfl, ht, ho⟩
      have H9 := Lib.hid (H8.out.stayR ht ho)
      clear ht ho H8
      go_wp2_with fail
      refine (TPairs H9.out.left.at_ 301).mono ?_
      rintro e w10 ⟨⟨vP, rfl, hr⟩, hO⟩
      have H10 := Lib.hid (H9.out.keep hO)
      clear hO H9
      have P_10 := Lib.hid hr
      clear hr
      go_wp2_with fail
      refine (TPairs H10.out.right.at_ 301).mono ?_
      rintro e w11 ⟨⟨vQ, rfl, hr⟩, hO⟩
      have H11 := Lib.hid (H10.out.keep hO)
      have P_11 := Lib.hid (P_10.out.keep hO)
      clear P_10
      clear hO H10
      have Q_11 := Lib.hid hr
      clear hr
      go_wp2_with fail
      refine (same_any _ _ _ _ _ P_11.out Q_11.out hll).mono ?_
      rintro e w12 ⟨rfl, nn, hv⟩
      have hO := (hv ▸ (Only.refl [] w11).drewN nn : Only [] w11 w12)
      clear hv
      have H12 := Lib.hid (H11.out.keep hO)
      have P_12 := Lib.hid (P_11.out.keep hO)
      have Q_12 := Lib.hid (Q_11.out.keep hO)
      clear P_11 Q_11
      rw [decide_eq_true rfl]
      clear hO H11
      go_wp2_with fail
      refine (CW.out _).mono ?_
      rintro e w13 ⟨rfl, hO⟩
      have H13 := Lib.hid (H12.out.keep hO)
      clear hO H12
      go_wp2_with fail
      go_ret
      exact ⟨rfl, H13.out.only.below⟩
end Go.Proofs.Ytbafacdknaopjaa
