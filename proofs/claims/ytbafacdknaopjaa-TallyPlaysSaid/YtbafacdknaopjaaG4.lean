import Derived.Test.YtbafacdknaopjaaG3
import Derived.Test.YtbafacdknaopjaaG2
import Derived.Test.YtbafacdknaopjaaM1
import Derived.Test.YtbafacdknaopjaaN1
/-
  A tally and the document's one side by side: agree.
-/
namespace Go.Proofs.Ytbafacdknaopjaa
open Go.RowKit
set_option linter.unusedSimpArgs false
set_option linter.unusedSectionVars false

theorem RefAt.keep {W W' : World} {F : List Nat} {R n : Nat} {lab wt : Nat → Nat} (h : RefAt W F R n lab wt) (o : Only [] W W') : RefAt W' F R n lab wt := let ⟨v1, v2, h⟩ := h; ⟨v1, v2, h.keep o⟩
theorem RefAt.only {W W' : World} {F gs : List Nat} {R n : Nat} {lab wt : Nat → Nat} (h : RefAt W F R n lab wt) (o : Only gs W W') (hd : ∀ k, k ∈ F → k ∉ gs) : RefAt W' F R n lab wt := let ⟨v1, v2, h⟩ := h; ⟨v1, v2, h.only o hd⟩
theorem RefAt.lt {W : World} {F : List Nat} {R n : Nat} {lab wt : Nat → Nat} (h : RefAt W F R n lab wt) : ∀ k, k ∈ F → k < W.heap.size := let ⟨_, _, h⟩ := h; h.lt
/-- Both lie in blocks of the call's own, apart from each other. -/
structure TR (w W : World) (F : List Nat) (A : Nat) (G : List Nat) (R n : Nat) (lab wt : Nat → Nat) : Prop where
  tal : OwnTal w W F A n lab wt
  ref : OwnRef w W G R n lab wt
  apart : ∀ k, k ∈ F → k ∉ G
theorem TR.keep {w W W' : World} {F G : List Nat} {A R n : Nat} {lab wt : Nat → Nat} (h : TR w W F A G R n lab wt) (o : Only [] W W') : TR w W' F A G R n lab wt :=
  ⟨h.tal.keep o, ⟨h.ref.at_.keep o, h.ref.new, h.ref.only.trans o⟩, h.apart⟩
theorem TR.stay {w W W' : World} {F G : List Nat} {A R n : Nat} {lab wt : Nat → Nat} (h : TR w W F A G R n lab wt) (ht : TalAt W' F A n lab wt) (o : Only F W W') : TR w W' F A G R n lab wt :=
  have hl := h.tal.stay ht o
  ⟨hl, ⟨h.ref.at_.only o fun k hk hm => h.apart k hm hk, h.ref.new, hl.only⟩, h.apart⟩
theorem TR.mk2 {w W W' : World} {F G : List Nat} {A R n : Nat} {lab wt : Nat → Nat} (h : OwnTal w W F A n lab wt) (h' : OwnRef W W' G R n lab wt) : TR w W' F A G R n lab wt :=
  ⟨h.keep h'.only, ⟨h'.at_, fun k hk => Nat.le_trans h.only.size (h'.new k hk), h.only.trans h'.only⟩, fun k hk hm => by have := h.at_.lt k hk; have := h'.new k hm; omega⟩
/-- A union of both. -/
theorem TR.unite {w W W1 W2 : World} {F F1 G : List Nat} {A R n : Nat} {lab lab1 wt : Nat → Nat} (h : TR w W F A G R n lab wt) (ht : TalAt W1 F1 A n lab1 wt) (o : Only F W W1) (g : Grew W F F1) (hr : RefAt W2 G R n lab1 wt) (o2 : Only G W1 W2) : TR w W2 F1 A G R n lab1 wt := by
  have hl := h.tal.step ht o g
  have hap : ∀ k, k ∈ F1 → k ∉ G := fun k hk hm => (g k hk).elim (fun hf => h.apart k hf hm) fun hs => by have := h.ref.at_.lt k hm; omega
  have ho : Only [] w W2 := hl.only.to o2 fun i hi hlt => by have := h.ref.new i hi; omega
  exact ⟨⟨ht.only o2 hap, hl.new, ho⟩, ⟨hr, h.ref.new, ho⟩, hap⟩
/-- Copies of both. -/
theorem TR.copies {w W W1 W2 : World} {F F1 G G1 : List Nat} {A A1 R R1 n : Nat} {lab wt : Nat → Nat} (h : TR w W F A G R n lab wt) (ht : TalAt W1 F1 A1 n lab wt) (hF : ∀ k, k ∈ F1 → W.heap.size ≤ k) (o : Only [] W W1) (hr : OwnRef W1 W2 G1 R1 n lab wt) : TR w W2 F1 A1 G1 R1 n lab wt :=
  TR.mk2 ⟨ht, fun k hk => Nat.le_trans h.tal.only.size (hF k hk), h.tal.only.trans o⟩ hr
theorem Reads.len {W : World} {v : Value} {L : Items} (h : Reads W v L) : ∃ A c, v = .slice A L.length c := let ⟨A, c, e, _⟩ := h; ⟨A, c, e⟩

set_option maxRecDepth 100000 in
set_option maxHeartbeats 4000000 in
theorem agree_ok {w W : World} {F G : List Nat} {A R n : Nat} {lab wt : Nat → Nat} (h : TR w W F A G R n lab wt) (a : Int) : Calls Try.prog 36 #[.pointer (some ⟨A, 0, none⟩), .pointer (some ⟨R, 0, none⟩), .int .i64 a] W fun e w' => e = .returned (.bool true) ∧ TR w w' F A G R n lab wt := by
  have H0 := Lib.hid h
  have hlen : (bagOf (setsL n lab wt)).length ≤ 65536 := by
    have h1 := bagOf_len_le (setsL n lab wt)
    rw [setsL_len] at h1
    exact Nat.le_trans h1 (Nat.le_trans (many_le _ _) h.tal.at_.bound)
  clear h
  obtain ⟨L, hL⟩ : ∃ L, bagOf (setsL n lab wt) = L := ⟨_, rfl⟩
  rw [hL] at hlen
  have HL := Lib.hid hL
  clear hL
  go_enter Try.func36, Try.ntmps36
  go_wp2_with fail
  refine (RPairs H0.out.ref.at_.choose_spec.choose_spec).mono ?_
  rintro e w1 ⟨⟨v, rfl, hr⟩, hO⟩
  rw [HL.out] at hr
  have H1 := Lib.hid (H0.out.keep hO)
  have P1 := Lib.hid hr
  obtain ⟨B, c, rfl⟩ := hr.len
  clear hr hO H0
  go_wp2_with fail
  refine (TWeight H1.out.tal.at_ a).mono ?_
  rintro e w2 ⟨rfl, ht, ho⟩
  have H2 := Lib.hid (H1.out.stay ht ho)
  have P2 := Lib.hid (P1.out.moved H1.out.tal.at_ ho)
  clear ht ho H1 P1
  go_wp2_with fail
  refine (RWeight H2.out.ref.at_.choose_spec.choose_spec a).mono ?_
  rintro e w3 ⟨rfl, hO⟩
  have H3 := Lib.hid (H2.out.keep hO)
  have P3 := Lib.hid (P2.out.keep hO)
  clear hO H2 P2
  go_wp2_with fail
  refine (TLargest H3.out.tal.at_).mono ?_
  rintro e w4 ⟨rfl, hO⟩
  have H4 := Lib.hid (H3.out.keep hO)
  have P4 := Lib.hid (P3.out.keep hO)
  clear hO H3 P3
  go_wp2_with fail
  refine (RLargest H4.out.ref.at_.choose_spec.choose_spec).mono ?_
  rintro e w5 ⟨rfl, hO⟩
  have H5 := Lib.hid (H4.out.keep hO)
  have P5 := Lib.hid (P4.out.keep hO)
  clear hO H4 P4
  go_wp2_with fail
  refine (TCount H5.out.tal.at_).mono ?_
  rintro e w' ⟨rfl, rfl⟩
  go_wp2_with fail
  refine (RCount H5.out.ref.at_.choose_spec.choose_spec).mono ?_
  rintro e w6 ⟨rfl, hO⟩
  have H6 := Lib.hid (H5.out.keep hO)
  have P6 := Lib.hid (P5.out.keep hO)
  clear hO H5 P5
  go_wp2_with fail
  refine (TSquares H6.out.tal.at_).mono ?_
  rintro e w7 ⟨rfl, hO⟩
  have H7 := Lib.hid (H6.out.keep hO)
  have P7 := Lib.hid (P6.out.keep hO)
  clear hO H6 P6
  go_wp2_with fail
  refine (RSquares H7.out.ref.at_.choose_spec.choose_spec).mono ?_
  rintro e w8 ⟨rfl, hO⟩
  have H8 := Lib.hid (H7.out.keep hO)
  have P8 := Lib.hid (P7.out.keep hO)
  clear hO H7 P7
  go_wp2_with fail
  refine (show Calls Try.prog 37 _ _ _ from (TPairs H8.out.tal.at_ (L.length + 1)).mono ?_)
  rintro e w9 ⟨⟨v, rfl, hr⟩, hO⟩
  rw [HL.out, List.take_of_length_le (Nat.le_succ _)] at hr
  have H9 := Lib.hid (H8.out.keep hO)
  have P9 := Lib.hid (P8.out.keep hO)
  have Q9 := Lib.hid hr
  clear hr hO H8 P8
  go_wp2_with fail
  refine (same_any _ _ _ _ _ Q9.out P9.out (by omega)).mono ?_
  rintro e w10 ⟨rfl, nn, hv⟩
  have hO := (hv ▸ (Only.refl [] w9).drewN nn : Only [] w9 w10)
  have H10 := Lib.hid (H9.out.keep hO)
  rw [decide_eq_true rfl]
  clear hO hv
  go_wp2_with fail
  go_ret
  exact ⟨rfl, H10.out⟩
end Go.Proofs.Ytbafacdknaopjaa

/-
  A nil tally of the document; agree of two nil tallies.
-/
namespace Go.Proofs.Ytbafacdknaopjaa
open Go.RowKit
set_option linter.unusedSimpArgs false
set_option linter.unusedSectionVars false

set_option maxRecDepth 100000 in
theorem rvalid_nil (W : World) : Calls Try.prog 93 #[.pointer none] W fun e w' => e = .returned (.bool false) ∧ W = w' := by
  go_enter Try.func93, Try.ntmps93
  go_wp2
  go_ret
  exact ⟨rfl, rfl⟩
set_option maxRecDepth 100000 in
theorem rexists_nil (W : World) (x : Int) : Calls Try.prog 94 #[.pointer none, .int .i64 x] W fun e w' => e = .returned (.bool false) ∧ W = w' := by
  go_enter Try.func94, Try.ntmps94
  go_wp2_with fail
  refine (rvalid_nil _).mono ?_
  rintro e w' ⟨rfl, rfl⟩
  go_wp2_with fail
  go_ret
  exact ⟨rfl, rfl⟩
set_option maxRecDepth 100000 in
theorem RWeight_nil (W : World) (x : Int) : Calls Try.prog 84 #[.pointer none, .int .i64 x] W fun e w' => e = .returned (.int .i64 0) ∧ W = w' := by
  go_enter Try.func84, Try.ntmps84
  go_wp2_with fail
  refine (rexists_nil _ _).mono ?_
  rintro e w' ⟨rfl, rfl⟩
  go_wp2_with fail
  go_ret
  exact ⟨rfl, rfl⟩
set_option maxRecDepth 100000 in
theorem RSets_nil (W : World) : Calls Try.prog 140 #[.pointer none] W fun e w' => e = .returned (.slice none 0 0) ∧ W = w' := by
  go_enter Try.func140, Try.ntmps140
  go_wp2_with fail
  refine (rvalid_nil _).mono ?_
  rintro e w' ⟨rfl, rfl⟩
  go_wp2_with fail
  go_ret
  exact ⟨rfl, rfl⟩
set_option maxRecDepth 100000 in
theorem RUnion_nil (W : World) (x y : Int) : Calls Try.prog 43 #[.pointer none, .int .i64 x, .int .i64 y] W fun e w' => e = .returned (.tuple #[.bool false, .int .i64 1]) ∧ W = w' := by
  go_enter Try.func43, Try.ntmps43
  go_wp2_with fail
  refine (rvalid_nil _).mono ?_
  rintro e w' ⟨rfl, rfl⟩
  go_wp2_with fail
  go_ret2
  exact ⟨rfl, rfl⟩
set_option maxRecDepth 100000 in
theorem RCopy_nil (W : World) : Calls Try.prog 42 #[.pointer none] W fun e w' => e = .returned (.pointer none) ∧ W = w' := by
  go_enter Try.func42, Try.ntmps42
  go_wp2_with fail
  refine (rvalid_nil _).mono ?_
  rintro e w' ⟨rfl, rfl⟩
  go_wp2_with fail
  go_ret
  exact ⟨rfl, rfl⟩
set_option maxRecDepth 100000 in
theorem RCount_nil (W : World) : Calls Try.prog 86 #[.pointer none] W fun e w' => e = .returned (.int .i64 0) ∧ W = w' := by
  go_enter Try.func86, Try.ntmps86
  go_wp2_with fail
  refine (RSets_nil _).mono ?_
  rintro e w' ⟨rfl, rfl⟩
  go_wp2_with fail
  go_ret
  exact ⟨rfl, rfl⟩
set_option maxRecDepth 100000 in
theorem RLargest_nil (W : World) : Calls Try.prog 85 #[.pointer none] W fun e w' => e = .returned (.int .i64 0) ∧ W = w' := by
  go_enter Try.func85, Try.ntmps85
  go_wp2_with fail
  refine (RSets_nil _).mono ?_
  rintro e w' ⟨rfl, rfl⟩
  go_wp2_with fail
  go_loop [4, 5] (fun s i => i = .int .i64 0 ∧ s = .int .i64 0) (fun _ _ => 0)
  case atStart => exact ⟨rfl, rfl⟩
  case round =>
    obtain ⟨rfl, rfl⟩ := hrel
    go_wp2_with fail
    go_ret
    exact ⟨rfl, rfl⟩

set_option maxRecDepth 100000 in
theorem RSquares_nil (W : World) : Calls Try.prog 87 #[.pointer none] W fun e w' => e = .returned (.int .i64 0) ∧ W = w' := by
  go_enter Try.func87, Try.ntmps87
  go_wp2_with fail
  refine (RSets_nil _).mono ?_
  rintro e w' ⟨rfl, rfl⟩
  go_wp2_with fail
  go_loopw [4, 5] (fun s i wr => i = .int .i64 0 ∧ s = .int .i64 0 ∧ W = wr) (fun _ _ _ => 0)
  case atStart => exact ⟨rfl, rfl, rfl⟩
  case round =>
    obtain ⟨rfl, rfl, rfl⟩ := hrel
    go_wp2_with fail
    go_ret
    exact ⟨rfl, rfl⟩

set_option maxRecDepth 100000 in
theorem RPairs_nil (W : World) : Calls Try.prog 83 #[.pointer none] W fun e w' => e = .returned (.slice none 0 0) ∧ Only [] W w' := by
  go_enter Try.func83, Try.ntmps83
  go_wp2_with fail
  refine (RSets_nil _).mono ?_
  rintro e w' ⟨rfl, rfl⟩
  go_wp2_with fail
  go_loopw [4, 5] (fun s i wr => i = .int .i64 0 ∧ s = .slice none 0 0 ∧ W = wr) (fun _ _ _ => 0)
  case atStart => exact ⟨rfl, rfl, rfl⟩
  case round =>
    obtain ⟨rfl, rfl, rfl⟩ := hrel
    go_wp2_with fail
    go_ret
    exact ⟨rfl, Only.refl _ _⟩
theorem reads_nil (W : World) : Reads W (.slice none 0 0) [] := Reads.of_row (base := 0) (World.ownsRow_nil _ _ _ _)
set_option maxRecDepth 100000 in
set_option maxHeartbeats 4000000 in
theorem agree_nil (W : World) (a : Int) : Calls Try.prog 36 #[.pointer none, .pointer none, .int .i64 a] W fun e w' => e = .returned (.bool true) ∧ Only [] W w' := by
  have HB := Lib.hid (badT_nil W)
  go_enter Try.func36, Try.ntmps36
  go_wp2_with fail
  refine (RPairs_nil _).mono ?_
  rintro e w1 ⟨rfl, hO⟩
  have H1 := Lib.hid (HB.out.only hO)
  have O1 := Lib.hid hO
  clear hO HB
  go_wp2_with fail
  refine (WeightB H1.out a).mono ?_
  rintro e w' ⟨rfl, rfl⟩
  go_wp2_with fail
  refine (RWeight_nil _ a).mono ?_
  rintro e w' ⟨rfl, rfl⟩
  go_wp2_with fail
  refine (LargestB H1.out).mono ?_
  rintro e w' ⟨rfl, rfl⟩
  go_wp2_with fail
  refine (RLargest_nil _).mono ?_
  rintro e w' ⟨rfl, rfl⟩
  go_wp2_with fail
  refine (CountB H1.out).mono ?_
  rintro e w' ⟨rfl, rfl⟩
  go_wp2_with fail
  refine (RCount_nil _).mono ?_
  rintro e w' ⟨rfl, rfl⟩
  go_wp2_with fail
  refine (SquaresB H1.out).mono ?_
  rintro e w' ⟨rfl, rfl⟩
  go_wp2_with fail
  refine (RSquares_nil _).mono ?_
  rintro e w' ⟨rfl, rfl⟩
  go_wp2_with fail
  refine (PairsB H1.out 1).mono ?_
  rintro e w2 ⟨⟨v, rfl, hr⟩, hO⟩
  have Q2 := Lib.hid hr
  have O2 := Lib.hid (O1.out.trans hO)
  clear hr hO O1
  go_wp2_with fail
  refine (same_any _ _ _ _ _ Q2.out (reads_nil _) (by simp)).mono ?_
  rintro e w3 ⟨rfl, nn, hv⟩
  have hO := (hv ▸ (Only.refl [] w2).drewN nn : Only [] w2 w3)
  have O3 := Lib.hid (O2.out.trans hO)
  rw [decide_eq_true rfl]
  clear hO hv
  go_wp2_with fail
  go_ret
  exact ⟨rfl, O3.out⟩
end Go.Proofs.Ytbafacdknaopjaa
