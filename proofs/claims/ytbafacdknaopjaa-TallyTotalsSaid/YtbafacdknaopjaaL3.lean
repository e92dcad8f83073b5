/-
  The walk of TallyTotals.
-/
import Derived.Test.YtbafacdknaopjaaM1
import Derived.Test.YtbafacdknaopjaaL2
import Derived.IntWalk
import Derived.BigQuiet
namespace Go.Proofs.Ytbafacdknaopjaa
open Go.RowKit
set_option linter.unusedSimpArgs false
set_option linter.unusedSectionVars false

/-- Sums over the first items. -/
def hSz (L : Items) (k : Nat) : Nat := T.szL (L.take k)
def hSum (L : Items) (k : Nat) : Int := itSum (L.take k)
def hSq (L : Items) (k : Nat) : Nat := itSq (L.take k)
def hLast (L : Items) (k : Nat) : Int := match k with | 0 => 0 | k + 1 => (L[k]?.map (·.1)).getD 0
theorem szL_append2 (a b : Items) : T.szL (a ++ b) = T.szL a + T.szL b := by
  induction a with
  | nil => simp [T.szL]
  | cons p a ih => simp only [List.cons_append, T.szL, ih]; omega
theorem itSum_append2 (a b : Items) : itSum (a ++ b) = itSum a + itSum b := by
  induction a with
  | nil => simp [itSum]
  | cons p a ih => simp only [List.cons_append, itSum, ih]; omega
theorem itSq_append2 (a b : Items) : itSq (a ++ b) = itSq a + itSq b := by
  induction a with
  | nil => simp [itSq]
  | cons p a ih => simp only [List.cons_append, itSq, ih]; omega
section
variable {L : Items} {k : Nat} {p : Int × Nat} (h : L[k]? = some p)
include h
theorem take_at : L.take (k + 1) = L.take k ++ [p] := by rw [List.take_add_one, h]; rfl
theorem hSz_succ : hSz L (k + 1) = hSz L k + p.2 := by unfold hSz; rw [take_at h, szL_append2]; simp [T.szL]
theorem hSum_succ : hSum L (k + 1) = hSum L k + p.1 * p.2 := by unfold hSum; rw [take_at h, itSum_append2]; simp [itSum]
theorem hSq_succ : hSq L (k + 1) = hSq L k + p.1.natAbs * p.1.natAbs * p.2 := by unfold hSq; rw [take_at h, itSq_append2]; simp [itSq]
theorem hLast_succ : hLast L (k + 1) = p.1 := by simp [hLast, h]
end
theorem hSz_le (L : Items) (k : Nat) : hSz L k ≤ T.szL L := by
  have := szL_append2 (L.take k) (L.drop k)
  rw [List.take_append_drop] at this
  unfold hSz; omega
theorem hSq_le (L : Items) (k : Nat) : hSq L k ≤ itSq L := by
  have := itSq_append2 (L.take k) (L.drop k)
  rw [List.take_append_drop] at this
  unfold hSq; omega
theorem itSum_nonneg {L : Items} (h : ∀ p ∈ L, 0 ≤ p.1) : 0 ≤ itSum L := by
  induction L with
  | nil => exact Int.le_refl _
  | cons p L ih =>
    have := ih fun q hq => h q (List.mem_cons_of_mem _ hq)
    have h0 := h p List.mem_cons_self
    have : 0 ≤ p.1 * (p.2 : Int) := Int.mul_nonneg h0 (by omega)
    simp only [itSum]; omega
theorem hSum_le {L : Items} (h : ∀ p ∈ L, 0 ≤ p.1) (k : Nat) : 0 ≤ hSum L k ∧ hSum L k ≤ itSum L := by
  have := itSum_append2 (L.take k) (L.drop k)
  rw [List.take_append_drop] at this
  have h1 := itSum_nonneg (L := L.take k) fun p hp => h p (List.mem_of_mem_take hp)
  have h2 := itSum_nonneg (L := L.drop k) fun p hp => h p (List.mem_of_mem_drop hp)
  unfold hSum; omega
theorem sorted_lt {L : Items} (h : Sorted L) {i j : Nat} {p q : Int × Nat} (hp : L[i]? = some p) (hq : L[j]? = some q) (hij : i < j) : p.1 < q.1 := by
  obtain ⟨hi, ei⟩ := List.getElem?_eq_some_iff.1 hp
  obtain ⟨hj, ej⟩ := List.getElem?_eq_some_iff.1 hq
  have := List.pairwise_iff_getElem.1 h i j hi hj hij
  rw [ei, ej] at this
  exact this
theorem hLast_end {L : Items} (h : Sorted L) (hp : ∀ p ∈ L, 1 ≤ p.2) : hLast L L.length = lastV L := by
  cases e : L.length with
  | zero =>
    obtain rfl : L = [] := List.length_eq_zero_iff.1 e
    rfl
  | succ k =>
    have hk : k < L.length := by omega
    have hg : L[k]? = some L[k] := List.getElem?_eq_getElem hk
    rw [hLast_succ hg]
    refine Int.le_antisymm (lastV_max h hp (List.getElem_mem hk)) ?_
    have h0 : 0 < T.szL L := by have := len_le_sz hp; omega
    obtain ⟨m, hm⟩ := lastV_mem h0
    obtain ⟨i, hi, ei⟩ := List.getElem_of_mem hm
    by_cases e2 : i = k
    · subst e2; rw [ei]; exact Int.le_refl _
    · have := sorted_lt h (List.getElem?_eq_getElem hi) hg (by omega)
      rw [ei] at this
      exact Int.le_of_lt this
theorem itSum_sets {n : Nat} {lab wt : Nat → Nat} (h : Labs n lab) : itSum (bagOf (setsL n lab wt)) = (total n wt : Nat) := by
  rw [bagOf_sum]; exact setsL_sum fun a ha => ⟨h.lt ha, (h a ha).2⟩

set_option maxRecDepth 100000 in
set_option maxHeartbeats 8000000 in
theorem tallyTotals_walk (A B : Option Addr) (nl c m d : Nat) (f g1 g2 : Nat → Int) (w : World) (h : IntsIn w .u16 A nl f) (hg : PairsIn w .u8 B m g1 g2) :
    Calls Try.prog 6 #[.slice A nl c, .slice B m d] w fun e w' => e = .returned (.bool true) ∧ Below w.heap.size w w' := by
  have CW := Lib.hid (fun W => works_any W)
  have CM := Lib.hid (made_any A nl c f w h)
  have HG := Lib.hid hg
  have HU := Lib.hid (show ∀ j, j < nl → 0 ≤ f j ∧ f j ≤ 65535 from fun j hj => wf_u16 (h.wf j hj))
  have hml := hg.len
  unfold maxLen at hml
  clear h hg
  go_enter Try.func6, Try.ntmps6
  go_wp2_with fail
  refine CM.out.mono ?_
  rintro e w1 ⟨F, Tl, v, rfl, _, A', c', rfl, _, W0, hO0, hot, hwt⟩
  have HO := Lib.hid hO0
  have H1 := Lib.hid hot
  have HI := Lib.hid hwt
  have hn60 : min nl 60 ≤ 60 := Nat.min_le_right _ _
  have hnl : min nl 60 ≤ nl := Nat.min_le_left _ _
  obtain ⟨n, hn⟩ : ∃ n, min nl 60 = n := ⟨_, rfl⟩
  rw [hn] at H1 HI hn60 hnl ⊢
  clear hn hot hwt hO0 CM
  obtain ⟨wt, hwt⟩ : ∃ wt, wtOf f = wt := ⟨_, rfl⟩
  rw [hwt] at H1
  have HWT := Lib.hid (show ∀ j, j < n → (wt j : Int) = f j from fun j hj => by have := HU.out j (by omega); rw [← hwt]; unfold wtOf; omega)
  clear hwt
  go_wp2_with fail
  refine (unite_any B _ n m d false g1 g2 _ wt _ w1 (fun W F' hm => HG.out.only ((HO.out.trans H1.out.only).to hm.only fun i hi hlt => by have := H1.out.new i hi; have := HO.out.size; omega)) H1.out.at_).mono ?_
  rintro e w2 ⟨rfl, F2, ht, hm⟩
  have H2 := Lib.hid (H1.out.moves ht hm)
  have hle := roots_fold_le (lab := id) (Labs.id n) (prs_lt (n := n) (m := m) (f := g1) (g := g2))
  have hid := roots_id n
  obtain ⟨lab, hlab⟩ : ∃ lab, (prs n m g1 g2).foldl uni id = lab := ⟨_, rfl⟩
  rw [hlab] at H2 hle ⊢
  rw [hid] at hle ⊢
  have hlow := H2.out.at_.low
  have hLb := Lib.hid H2.out.at_.labs
  clear hlab hid ht hm H1
  obtain ⟨cn, hcn⟩ : ∃ cn, roots n lab = cn := ⟨_, rfl⟩
  rw [hcn] at hle ⊢
  have HC := Lib.hid hcn
  clear hcn
  go_wp2_with fail
  refine (TCount H2.out.at_).mono ?_
  rintro e w' ⟨rfl, rfl⟩
  rw [HC.out]
  have q0 : (n : Int) - ((n : Int) - (cn : Int)) = (cn : Int) := by omega
  go_wp2_with fail
  clear q0
  go_loop [8, 11] (fun s i => ∃ k : Nat, k ≤ n ∧ i = .int .i64 k ∧ s = .int .i64 (total k wt)) (fun _ i => n - (intOf i).toNat)
  case atStart => exact ⟨0, Nat.zero_le _, rfl, rfl⟩
  case round =>
    obtain ⟨k, hk, rfl, rfl⟩ := hrel
    have htl : total k wt ≤ 3037000499 := Nat.le_trans (total_head hk) hlow
    by_cases hlt : k < n
    · obtain ⟨b, off, rfl, hc⟩ := (HI.out.only H2.out.only).cell hlt
      have hw := HWT.out k hlt
      rw [← hw] at hc
      have HT := Lib.hid (show ((total (k + 1) wt : Nat) : Int) = total k wt + wt k by simp only [total]; omega)
      have hb : wt k ≤ 65535 := by have := HU.out k (by omega); omega
      clear hw
      go_wp2_with fail
      go_round
      case rel => exact ⟨k + 1, by omega, by go_num, by rw [HT.out]⟩
      case measure => simp [intOf]; omega
    · obtain rfl : k = n := by omega
      go_wp2_with fail
      refine (TPairs H2.out.at_ 61).mono ?_
      rintro e w3 ⟨⟨vP, rfl, hr⟩, hO⟩
      have hlen : (bagOf (setsL k lab wt)).length ≤ 60 := by
        have h1 := bagOf_len_le (setsL k lab wt)
        rw [setsL_len] at h1
        have h2 : many k (fun a => lab a == a) = cn := HC.out
        omega
      rw [List.take_of_length_le (by omega)] at hr
      have HS := Lib.hid (show Sorted (bagOf (setsL k lab wt)) ∧ (∀ p ∈ bagOf (setsL k lab wt), 1 ≤ p.2) ∧ (∀ p ∈ bagOf (setsL k lab wt), 0 ≤ p.1 ∧ p.1 ≤ 3037000499) from
        ⟨bagOf_sorted _, bagOf_pos _, fun p hp => by
          obtain ⟨b, _, _, e⟩ := setsL_mem (bagOf_mem hp)
          have := sumOf_le k lab wt b
          omega⟩)
      have E1 : itSum (bagOf (setsL k lab wt)) = (total k wt : Nat) := itSum_sets hLb.out
      have E2 : T.szL (bagOf (setsL k lab wt)) = cn := by rw [bagOf_sz, setsL_len]; exact HC.out
      have E3 : lastV (bagOf (setsL k lab wt)) = largest k lab wt := lastV_maxL setsL_nonneg
      have E4 : itSq (bagOf (setsL k lab wt)) = squares k lab wt := by rw [bagOf_sq, sqL_sets]
      have E5 : squares k lab wt ≤ 9223372036854775807 := by
        have h1 := squares_le k lab wt hLb.out
        have h2 : total k wt * total k wt ≤ 3037000499 * 3037000499 := Nat.mul_le_mul hlow hlow
        omega
      obtain ⟨L, hL⟩ : ∃ L, bagOf (setsL k lab wt) = L := ⟨_, rfl⟩
      rw [hL] at hr hlen HS E1 E2 E3 E4
      have HE := Lib.hid (And.intro E1 (And.intro E2 (And.intro E3 (And.intro E4 E5))))
      have HR := Lib.hid hr
      have H3 := Lib.hid (H2.out.keep hO)
      obtain ⟨A3, c3, rfl, hA3⟩ := hr
      clear hA3 hO hL E1 E2 E3 E4 E5 H2 htl
      go_wp2_with fail
      go_loopw [9, 10, 13, 14, 15] (fun a b s l i wr => ∃ j : Nat, j ≤ L.length ∧ i = .int .i64 j ∧ a = .int .i64 (hSum L j) ∧ b = .int .i64 (hSq L j) ∧ s = .int .i64 (hSz L j) ∧ l = .int .i64 (hLast L j) ∧ Hid (Only [] w3 wr)) (fun _ _ _ _ i _ => L.length - (intOf i).toNat)
      case atStart => exact ⟨0, Nat.zero_le _, rfl, rfl, rfl, rfl, rfl, Lib.hid (Only.refl _ _)⟩
      case round =>
        obtain ⟨j, hj, rfl, rfl, rfl, rfl, rfl, hO⟩ := hrel
        have r1 := hSz_le L j
        have r2 := hSq_le L j
        have r3 := hSum_le (fun p hp => (HS.out.2.2 p hp).1) j
        rw [HE.out.2.1] at r1
        rw [HE.out.2.2.2.1] at r2
        have r4 := HE.out.2.2.2.2
        rw [HE.out.1] at r3
        by_cases hlt : j < L.length
        · obtain ⟨⟨x, u⟩, hp⟩ : ∃ p, L[j]? = some p := ⟨_, List.getElem?_eq_getElem hlt⟩
          obtain ⟨g, rfl, c0, c1⟩ := (HR.out.keep hO.out).cells hp
          have hmem : (x, u) ∈ L := by obtain ⟨hh, e⟩ := List.getElem?_eq_some_iff.1 hp; rw [← e]; exact List.getElem_mem hh
          have hu := HS.out.2.1 _ hmem
          obtain ⟨x0, x1⟩ := HS.out.2.2 _ hmem
          have n1 := hSum_succ hp
          have n2 := hSq_succ hp
          have n3 := hSz_succ hp
          have n4 := hLast_succ hp
          have m1 := hSum_le (fun p hp => (HS.out.2.2 p hp).1) (j + 1)
          have m2 := hSq_le L (j + 1)
          have m3 := hSz_le L (j + 1)
          rw [HE.out.1] at m1
          rw [HE.out.2.2.2.1] at m2
          rw [HE.out.2.1] at m3
          simp only at c0 c1 hu x0 x1 n1 n2 n3 n4
          have hl : 0 < j → hLast L j < x := fun h0 => by
            obtain ⟨i, rfl⟩ : ∃ i, j = i + 1 := ⟨j - 1, by omega⟩
            obtain ⟨q, hq⟩ : ∃ q, L[i]? = some q := ⟨_, List.getElem?_eq_getElem (by omega)⟩
            rw [hLast_succ hq]
            exact sorted_lt HS.out.1 hq hp (by omega)
          have hl0 : j = 0 → hLast L j = 0 := fun e => by subst e; rfl
          have n2' : ((hSq L (j + 1) : Nat) : Int) = (hSq L j : Int) + x * x * (u : Int) := by
            rw [n2, Int.natCast_add, Int.natCast_mul, Int.natCast_mul, Int.natAbs_of_nonneg x0]
          have xu0 : 0 ≤ x * (u : Int) := Int.mul_nonneg x0 (by omega)
          have xx0 : 0 ≤ x * x := Int.mul_nonneg x0 x0
          have xxu0 : 0 ≤ x * x * (u : Int) := Int.mul_nonneg xx0 (by omega)
          have xx1 : x * x ≤ x * x * (u : Int) := by
            have := Int.mul_le_mul_of_nonneg_left (show (1 : Int) ≤ (u : Int) by omega) xx0
            omega
          have s1 : x * (u : Int) ≤ 9223372036854775807 := by omega
          have w1 : IntKind.i64.wrap (x * (u : Int)) = x * (u : Int) := IntWalk.i64_in _ (by omega)
          have w2 : IntKind.i64.wrap (hSum L j + x * (u : Int)) = hSum L j + x * (u : Int) := IntWalk.i64_in _ (by omega)
          have w3' : IntKind.i64.wrap (x * x) = x * x := IntWalk.i64_in _ (by omega)
          have w4 : IntKind.i64.wrap (x * x * (u : Int)) = x * x * (u : Int) := IntWalk.i64_in _ (by omega)
          have w5 : IntKind.i64.wrap ((hSq L j : Int) + x * x * (u : Int)) = (hSq L j : Int) + x * x * (u : Int) := IntWalk.i64_in _ (by omega)
          have HN := Lib.hid (And.intro n1 (And.intro n2' (And.intro n3 n4)))
          have hz : hSz L j + u ≤ 60 := by omega
          have hs2 : hSum L j ≤ 3037000499 := by omega
          clear n1 n2 n2' n3 n4 m1 m2 m3 r1 r2 r4 hmem hp s1
          generalize hSum L j = sj at *
          generalize hSq L j = qj at *
          generalize hSz L j = zj at *
          generalize hLast L j = lj at *
          by_cases h0 : 0 < j
          · have h1 := hl h0
            have h2 : decide (x ≤ lj) = false := by simp; omega
            clear hl hl0
            go_wp2_with fail
            go_quiet (fail)
            go_wp2_with fail
            go_quiet (fail)
            clear w1 w2 w3' w4 w5
            go_wp2_with fail
            go_roundw
            case rel => exact ⟨j + 1, by omega, by go_num, by rw [HN.out.1], by rw [HN.out.2.1], by rw [HN.out.2.2.1]; go_num, by rw [HN.out.2.2.2], Lib.hid (by first | exact hO.out.drewN _ | exact (hO.out.drewN _).drewN _)⟩
            case measure => simp [intOf]; omega
          · have hj0 : j ≤ 0 := by omega
            clear hl hl0 h0
            go_wp2_with fail
            go_quiet (fail)
            go_wp2_with fail
            go_quiet (fail)
            clear w1 w2 w3' w4 w5
            go_wp2_with fail
            go_roundw
            case rel => exact ⟨j + 1, by omega, by go_num, by rw [HN.out.1], by rw [HN.out.2.1], by rw [HN.out.2.2.1]; go_num, by rw [HN.out.2.2.2], Lib.hid (by first | exact hO.out.drewN _ | exact (hO.out.drewN _).drewN _)⟩
            case measure => simp [intOf]; omega
        · obtain rfl : j = L.length := by omega
          have E1 : hSum L L.length = (total k wt : Nat) := by unfold hSum; rw [List.take_of_length_le (Nat.le_refl _)]; exact HE.out.1
          have E2 : hSz L L.length = cn := by unfold hSz; rw [List.take_of_length_le (Nat.le_refl _)]; exact HE.out.2.1
          have E3 : hLast L L.length = largest k lab wt := by rw [hLast_end HS.out.1 HS.out.2.1]; exact HE.out.2.2.1
          have E4 : hSq L L.length = squares k lab wt := by unfold hSq; rw [List.take_of_length_le (Nat.le_refl _)]; exact HE.out.2.2.2.1
          rw [E1, E2, E3, E4]
          have H4 := Lib.hid (H3.out.keep hO.out)
          clear E1 E2 E3 E4 H3 hO r1 r2 r3 r4
          go_wp2_with fail
          refine (TCount H4.out.at_).mono ?_
          rintro e w' ⟨rfl, rfl⟩
          rw [HC.out]
          go_wp2_with fail
          refine (TLargest H4.out.at_).mono ?_
          rintro e w5 ⟨rfl, hO⟩
          have H5 := Lib.hid (H4.out.keep hO)
          clear hO H4
          go_wp2_with fail
          refine (TSquares H5.out.at_).mono ?_
          rintro e w6 ⟨rfl, hO⟩
          have H6 := Lib.hid (H5.out.keep hO)
          clear hO H5
          go_wp2_with fail
          refine (CW.out _).mono ?_
          rintro e w7 ⟨rfl, hO⟩
          have H7 := Lib.hid (H6.out.keep hO)
          clear hO H6
          go_wp2_with fail
          go_ret
          exact ⟨rfl, (HO.out.trans H7.out.only).below⟩
end Go.Proofs.Ytbafacdknaopjaa
