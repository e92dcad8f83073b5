/-
  The walk of BagSmall.
-/
import Derived.Test.YtldodcojkdanjaaB6
namespace Go.Proofs.Ytldodcojkdanjaa
open Go.RowKit
set_option linter.unusedSimpArgs false

theorem itSum_lput {x : Int} {n : Nat} {l : Items} (h : Sorted l) : itSum (lput x n l) + x * (lcnt x l : Nat) = itSum l + x * n := by
  induction l with
  | nil =>
    simp only [lput]
    split
    · rename_i h0; subst h0; simp [itSum, lcnt]
    · simp [itSum, lcnt]
  | cons p l ih =>
    have h2 := List.pairwise_cons.1 h
    have ih := ih h2.2
    simp only [lput]
    by_cases h1 : p.1 < x
    · rw [if_pos h1]
      simp only [itSum, lcnt, if_neg (show ¬ p.1 = x by omega)]
      omega
    · rw [if_neg h1]
      by_cases h3 : p.1 = x
      · rw [if_pos h3]
        subst h3
        have hx : lcnt p.1 (p :: l) = p.2 := by simp [lcnt]
        rw [hx]
        split
        · rename_i h0; subst h0; simp only [itSum]; simp; omega
        · simp only [itSum]; omega
      · rw [if_neg h3]
        have hx : lcnt x (p :: l) = 0 := lcnt_none fun q hq => by
          rcases List.mem_cons.1 hq with rfl | hq
          · exact h3
          · have := h2.1 q hq; omega
        rw [hx]
        split
        · rename_i h0; subst h0; simp
        · simp only [itSum]; simp; omega
theorem itSq_lput {x : Int} {n : Nat} {l : Items} (h : Sorted l) : itSq (lput x n l) + x.natAbs * x.natAbs * lcnt x l = itSq l + x.natAbs * x.natAbs * n := by
  induction l with
  | nil =>
    simp only [lput]
    split
    · rename_i h0; subst h0; simp [itSq, lcnt]
    · simp [itSq, lcnt]
  | cons p l ih =>
    have h2 := List.pairwise_cons.1 h
    have ih := ih h2.2
    simp only [lput]
    by_cases h1 : p.1 < x
    · rw [if_pos h1]
      simp only [itSq, lcnt, if_neg (show ¬ p.1 = x by omega)]
      omega
    · rw [if_neg h1]
      by_cases h3 : p.1 = x
      · rw [if_pos h3]
        subst h3
        have hx : lcnt p.1 (p :: l) = p.2 := by simp [lcnt]
        rw [hx]
        split
        · rename_i h0; subst h0; simp only [itSq]; simp; omega
        · simp only [itSq]; omega
      · rw [if_neg h3]
        have hx : lcnt x (p :: l) = 0 := lcnt_none fun q hq => by
          rcases List.mem_cons.1 hq with rfl | hq
          · exact h3
          · have := h2.1 q hq; omega
        rw [hx]
        split
        · rename_i h0; subst h0; simp
        · simp only [itSq]; simp; omega

/-- A bag of numbers, each twice, with the sums that the law keeps. -/
structure Small (t : T) (k : Nat) (s q : Int) : Prop where
  sz : t.sz = 2 * k
  sum : itSum t.items = s
  sq : (itSq t.items : Int) = q
  lo : -(2097152 * (k : Int)) ≤ s
  hi : s ≤ 2097152 * (k : Int)
  qlo : 0 ≤ q
  qhi : q ≤ 2199023255552 * (k : Int)
  ranged : Ranged t.items
theorem Small.step {t t' : T} {k : Nat} {s q x : Int} (h : Small t k s q) (hs : Sorted t.items) (e : t'.items = lput x (lcnt x t.items + 2) t.items) (h0 : -1048576 ≤ x) (h1 : x ≤ 1048576) : Small t' (k + 1) (s + 2 * x) (q + 2 * x * x) := by
  have a1 := lput_sz (x := x) (n := lcnt x t.items + 2) hs
  have a2 := itSum_lput (x := x) (n := lcnt x t.items + 2) hs
  have a3 := itSq_lput (x := x) (n := lcnt x t.items + 2) hs
  have b1 : (x.natAbs * x.natAbs : Nat) ≤ 1048576 * 1048576 := Nat.mul_le_mul (by omega) (by omega)
  have b2 : ((x.natAbs * x.natAbs : Nat) : Int) = x * x := Int.natAbs_mul_self
  have b3 : 2 * x * x = 2 * (x * x) := Int.mul_assoc 2 x x
  have h1' := h.sz
  have h2' := h.sum
  have h3' := h.sq
  have h4' := h.lo
  have h5' := h.hi
  have h6' := h.qlo
  have h7' := h.qhi
  rw [← e] at a1 a2 a3
  rw [← T.sz_items, ← T.sz_items] at a1
  rw [Int.natCast_add, Int.mul_add] at a2
  rw [Nat.mul_add] at a3
  rw [b3]
  generalize x * x = xx at *
  generalize x * (lcnt x t.items : Nat) = xl at *
  generalize x.natAbs * x.natAbs = nn at *
  generalize nn * lcnt x t.items = nl at *
  refine ⟨by omega, by omega, by omega, by omega, by omega, by omega, by omega, fun p hp => ?_⟩
  rw [e] at hp
  rcases lput_mem hp with ⟨rfl, _⟩ | hp
  · exact ⟨by show _ ≤ x; omega, by show x ≤ _; omega⟩
  · exact h.ranged p hp

theorem tmod_small (a : Int) : -1048576 ≤ a.tmod 1048576 ∧ a.tmod 1048576 ≤ 1048576 := by
  have h1 := Int.tmod_lt_of_pos a (show (0 : Int) < 1048576 by omega)
  have h2 := Int.lt_tmod_of_pos a (show (0 : Int) < 1048576 by omega)
  omega

set_option maxRecDepth 100000 in
set_option maxHeartbeats 4000000 in
theorem bagSmall_walk (A : Option Addr) (n c : Nat) (f : Nat → Int) (w : World) (h : IntsIn w .i64 A n f) :
    Calls Try.prog 4 #[.slice A n c] w fun e w' => e = .returned (.bool true) ∧ Below w.heap.size w w' := by
  have hl := h.len
  unfold maxLen at hl
  have HI := Lib.hid h
  clear h
  have CW := Lib.hid (fun W => works_any W)
  by_cases hn : n ≤ 300
  · go_enter Try.func4, Try.ntmps4
    go_wp2_with fail
    refine (New_any w).mono ?_
    rintro e w1 ⟨rfl, hb1, hO1⟩
    have HB := Lib.hid (show OwnBag w w1 w.heap.size .leaf from ⟨hb1, fun k hk => by simp [T.blocks] at hk; omega, hO1⟩)
    clear hb1 hO1
    go_wp2_with fail
    go_loopw [4, 5, 6] (fun a b i wr => ∃ (k : Nat) (t : T) (s q : Int), k ≤ n ∧ i = .int .i64 k ∧ a = .int .i64 s ∧ b = .int .i64 q ∧ Hid (OwnBag w wr w.heap.size t) ∧ Hid (Small t k s q)) (fun _ _ i _ => n - (intOf i).toNat)
    case atStart => exact ⟨0, .leaf, 0, 0, Nat.zero_le _, rfl, rfl, rfl, HB, Lib.hid ⟨rfl, rfl, rfl, by omega, by omega, by omega, by omega, fun p hp => by simp [T.items] at hp⟩⟩
    case round =>
      obtain ⟨k, t, s, q, hk, rfl, rfl, rfl, hb, hh⟩ := hrel
      have s1 := hh.out.lo
      have s2 := hh.out.hi
      have s3 := hh.out.qlo
      have s4 := hh.out.qhi
      have s5 := hh.out.sz
      by_cases hlt : k < n
      · obtain ⟨b, off, rfl, hc⟩ := (HI.out.only hb.out.only).cell hlt
        obtain ⟨x1, x2⟩ := tmod_small (f k)
        obtain ⟨x, hx⟩ : ∃ x, (f k).tmod 1048576 = x := ⟨_, rfl⟩
        rw [hx] at x1 x2
        have CA := Lib.hid (Add_ok w.heap.size t x 2 wr hb.out.bag (by omega))
        have HS := Lib.hid (fun (t' : T) (e : t'.items = lput x (lcnt x t.items + 2) t.items) => hh.out.step hb.out.bag.so e x1 x2)
        have b0 : 0 ≤ 2 * x * x ∧ 2 * x * x ≤ 2199023255552 := by
          have b1 : (x.natAbs * x.natAbs : Nat) ≤ 1048576 * 1048576 := Nat.mul_le_mul (by omega) (by omega)
          have b2 : ((x.natAbs * x.natAbs : Nat) : Int) = x * x := Int.natAbs_mul_self
          have b3 : 2 * x * x = 2 * (x * x) := Int.mul_assoc 2 x x
          omega
        obtain ⟨xx, hxx⟩ : ∃ xx, 2 * x * x = xx := ⟨_, rfl⟩
        rw [hxx] at b0 HS
        obtain ⟨y1, y2⟩ := b0
        clear s5
        go_wp2_with fail
        refine CA.out.mono ?_
        rintro e w2 ⟨rfl, t', hbec⟩
        have H1 := Lib.hid (hb.out.step hbec)
        have H2 := Lib.hid (HS.out t' hbec.items)
        clear hbec hb hh CA HS
        go_wp2_with fail
        go_roundw
        case rel => exact ⟨k + 1, t', s + 2 * x, q + xx, by omega, by go_num, rfl, rfl, H1, H2⟩
        case measure => simp [intOf]; omega
      · obtain rfl : k = n := by omega
        have C1 := Lib.hid (Sum_c hb.out.bag rfl hh.out.ranged (by rw [hh.out.sum]; omega) (by rw [hh.out.sum]; omega))
        have CS := Lib.hid (fun W (hO : Only [] wr W) => Squares_c (hb.out.keep hO).bag rfl hh.out.ranged (by have := hh.out.sq; omega))
        rw [hh.out.sum] at C1
        rw [hh.out.sq] at CS
        clear s5
        go_wp2_with fail
        refine C1.out.mono ?_
        rintro e w2 ⟨rfl, hO2⟩
        have HO2 := Lib.hid hO2
        clear hO2
        go_wp2_with fail
        refine (CS.out _ HO2.out).mono ?_
        rintro e w3 ⟨rfl, hO3⟩
        have HO3 := Lib.hid (HO2.out.trans hO3)
        clear hO3
        go_wp2_with fail
        refine (CW.out _).mono ?_
        rintro e w9 ⟨rfl, hO⟩
        have HO := Lib.hid ((hb.out.only.trans HO3.out).trans hO)
        clear hO
        go_wp2_with fail
        go_ret
        exact ⟨rfl, HO.out.below⟩
  · go_enter Try.func4, Try.ntmps4
    go_wp2_with fail
    refine (CW.out _).mono ?_
    rintro e w9 ⟨rfl, hO⟩
    have HO := Lib.hid hO
    clear hO
    go_wp2_with fail
    go_ret
    exact ⟨rfl, HO.out.below⟩
end Go.Proofs.Ytldodcojkdanjaa
