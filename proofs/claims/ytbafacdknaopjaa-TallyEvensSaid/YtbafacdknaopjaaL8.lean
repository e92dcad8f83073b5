/-
  The walk of TallyEvens.
-/
import Derived.Test.YtbafacdknaopjaaL7
namespace Go.Proofs.Ytbafacdknaopjaa
open Go.RowKit
set_option linter.unusedSimpArgs false
set_option linter.unusedSectionVars false

theorem sets_ones (n : Nat) : setsL n id (fun _ => 1) = (List.range n).map fun _ => (1 : Int) := setsL_id n _
theorem largest_ones {n : Nat} (hn : 0 < n) : largest n id (fun _ => 1) = 1 := by
  unfold largest
  rw [sets_ones]
  refine Int.le_antisymm (maxL_le (by omega) fun v hv => ?_) (maxL_ge ?_)
  · obtain ⟨_, _, rfl⟩ := List.mem_map.1 hv; omega
  · exact List.mem_map.2 ⟨0, List.mem_range.2 hn, rfl⟩
theorem squares_ones (n : Nat) : squares n id (fun _ => 1) = n := by
  have h : ∀ m : Nat, sqL ((List.range m).map fun _ => (1 : Int)) = m := fun m => by
    induction m with
    | zero => rfl
    | succ m ih => rw [List.range_succ, List.map_append, sqL_append, ih]; rfl
  rw [← sqL_sets, sets_ones, h]

set_option maxRecDepth 100000 in
set_option maxHeartbeats 8000000 in
theorem tallyEvens_walk (x a : Int) (w : World) (hx : -9223372036854775808 ≤ x ∧ x ≤ 9223372036854775807) :
    Calls Try.prog 8 #[.int .i64 x, .int .i64 a] w fun e w' => e = .returned (.bool true) ∧ Below w.heap.size w w' := by
  have CW := Lib.hid (fun W => works_any W)
  by_cases hb : x < 0 ∨ 65536 < x
  · have CB := Lib.hid (TEven_bad x hb)
    have RB := Lib.hid (REven_bad x hb)
    by_cases h0 : x < 0
    · clear hb
      go_enter Try.func8, Try.ntmps8
      go_wp2_with fail
      refine (CB.out _).mono ?_
      rintro e w' ⟨rfl, rfl⟩
      go_wp2_with fail
      refine (RB.out _).mono ?_
      rintro e w' ⟨rfl, rfl⟩
      go_wp2_with fail
      refine (agree_nil _ a).mono ?_
      rintro e w3 ⟨rfl, hO⟩
      have H3 := Lib.hid hO
      clear hO
      go_wp2_with fail
      refine (CW.out _).mono ?_
      rintro e w4 ⟨rfl, hO⟩
      have H4 := Lib.hid (H3.out.trans hO)
      clear hO
      go_wp2_with fail
      go_ret
      exact ⟨rfl, H4.out.below⟩
    · have h1 : 65536 < x := by omega
      clear hb
      go_enter Try.func8, Try.ntmps8
      go_wp2_with fail
      refine (CB.out _).mono ?_
      rintro e w' ⟨rfl, rfl⟩
      go_wp2_with fail
      refine (RB.out _).mono ?_
      rintro e w' ⟨rfl, rfl⟩
      go_wp2_with fail
      refine (agree_nil _ a).mono ?_
      rintro e w3 ⟨rfl, hO⟩
      have H3 := Lib.hid hO
      clear hO
      go_wp2_with fail
      refine (CW.out _).mono ?_
      rintro e w4 ⟨rfl, hO⟩
      have H4 := Lib.hid (H3.out.trans hO)
      clear hO
      go_wp2_with fail
      go_ret
      exact ⟨rfl, H4.out.below⟩
  · obtain ⟨n, rfl, hn⟩ : ∃ n : Nat, x = n ∧ n ≤ 65536 := ⟨x.toNat, by omega, by omega⟩
    clear hb hx
    have CE := Lib.hid (fun W => TEven n hn W)
    have RE := Lib.hid (fun W => REven n hn W)
    by_cases h3 : 300 < n
    · have hl := largest_ones (n := n) (by omega)
      have hs := squares_ones n
      have hr := roots_id n
      go_enter Try.func8, Try.ntmps8
      go_wp2_with fail
      refine (CE.out _).mono ?_
      rintro e w1 ⟨F, T, rfl, ht, hF, hO⟩
      have H1 := Lib.hid (OwnTal.made (Only.refl [] w) ht hF hO)
      clear ht hF hO
      go_wp2_with fail
      refine (TCount H1.out.at_).mono ?_
      rintro e w' ⟨rfl, rfl⟩
      rw [hr]
      go_wp2_with fail
      refine (TLargest H1.out.at_).mono ?_
      rintro e w2 ⟨rfl, hO⟩
      rw [hl]
      have H2 := Lib.hid (H1.out.keep hO)
      clear hO H1
      go_wp2_with fail
      refine (TSquares H2.out.at_).mono ?_
      rintro e w3 ⟨rfl, hO⟩
      rw [hs]
      have H3 := Lib.hid (H2.out.keep hO)
      clear hO H2
      go_wp2_with fail
      refine (CW.out _).mono ?_
      rintro e w4 ⟨rfl, hO⟩
      have H4 := Lib.hid (H3.out.only.trans hO)
      clear hO
      go_wp2_with fail
      go_ret
      exact ⟨rfl, H4.out.below⟩
    · go_enter Try.func8, Try.ntmps8
      go_wp2_with fail
      refine (CE.out _).mono ?_
      rintro e w1 ⟨F, T, rfl, ht, hF, hO⟩
      have H1 := Lib.hid (OwnTal.made (Only.refl [] w) ht hF hO)
      clear ht hF hO
      go_wp2_with fail
      refine (RE.out _).mono ?_
      rintro e w2 ⟨G, R, rfl, hr⟩
      have H2 := Lib.hid (TR.mk2 H1.out hr)
      clear hr H1
      go_wp2_with fail
      refine (agree_ok H2.out a).mono ?_
      rintro e w3 ⟨rfl, h3⟩
      have H3 := Lib.hid h3.below
      clear h3 H2
      go_wp2_with fail
      refine (CW.out _).mono ?_
      rintro e w4 ⟨rfl, hO⟩
      have H4 := Lib.hid (H3.out.trans hO)
      clear hO
      go_wp2_with fail
      go_ret
      exact ⟨rfl, H4.out.below⟩
end Go.Proofs.Ytbafacdknaopjaa
