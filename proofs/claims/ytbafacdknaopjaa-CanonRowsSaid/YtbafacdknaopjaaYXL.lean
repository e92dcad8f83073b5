import Derived.Test.YtbafacdknaopjaaYX5
import Derived.Test.YtbafacdknaopjaaYX2
import Derived.Test.YtbafacdknaopjaaYM
/-
  The walk of CanonRows.
-/
namespace Go.Proofs.Ytbafacdknaopjaa
open Go.RowKit
set_option linter.unusedSimpArgs false
set_option linter.unusedSectionVars false

/-- The edges of a path, and the order that goes round. -/
def pU (j : Nat) : Int := (j : Int)
def pV (j : Nat) : Int := (j : Int) + 1
def pX (_ : Nat) : Int := 0
def pO (m t : Nat) (j : Nat) : Int := ((turnO m t j : Nat) : Int)
theorem path_good (m : Nat) (hm : m ≤ 59) : GCode ((m + 1 : Nat) : Int) m pU pV 0 := .inr ⟨by omega, .inr ⟨fun j hj => by unfold GoodE InE pU pV; omega, rfl⟩⟩
theorem path_ordered {m t : Nat} (hm : 1 ≤ m) : Ordered m m (pO m t) := by
  refine ⟨fun i hi => ?_, fun i hi k hk => ?_⟩
  · have := turn_lt (t := t) hm i
    unfold pO
    omega
  · have := turn_apart (t := t) hi hk
    unfold pO turnO
    omega
theorem pU_nat : (fun j => (pU j).toNat) = id := by funext j; simp [pU]
theorem pV_nat : (fun j => (pV j).toNat) = pathQ := by funext j; simp only [pV, pathQ]; omega
theorem pO_nat (m t : Nat) : (fun j => (pO m t j).toNat) = turnO m t := by funext j; simp [pO]

/-- The two lists under way. -/
structure PSide (w : World) (m t k : Nat) (vs vo : Value) (wr : World) : Prop where
  edges : wr.ownsRow w.heap.size 70 3 vs k (edgesL pU pV pX k)
  order : wr.ownsRow w.heap.size 3 1 vo k ((List.range k).map fun i => .int .i64 (pO m t i))
  bel : Below w.heap.size w wr
theorem pO_succ (m t k : Nat) : ((List.range (k + 1)).map fun i => Value.int .i64 (pO m t i)) = ((List.range k).map fun i => Value.int .i64 (pO m t i)) ++ [.int .i64 (pO m t k)] := by
  rw [List.range_succ, List.map_append]; rfl
theorem ints_owned {w : World} {base n : Nat} {v : Value} {f : Nat → Int} (h : w.ownsRow base 3 1 v n ((List.range n).map fun i => .int .i64 (f i))) (hw : ∀ j, j < n → (Lit.int .i64 (f j)).wf = true) : ∃ A c, v = .slice A n c ∧ IntsIn w .i64 A n f := by
  obtain ⟨hl, ⟨rfl, rfl⟩ | ⟨g, cap, cur, rfl, hg, hh, hn, hc, hs, ht⟩⟩ := h
  · exact ⟨none, 0, rfl, fun h => absurd h (by omega), fun j hj => by omega, by unfold maxLen; omega⟩
  · refine ⟨_, cap, rfl, fun _ => ⟨g, 0, rfl, heap_lt hh, fun j hj => ?_⟩, hw, by omega⟩
    rw [Nat.zero_add]
    refine cell_of_heap hh ?_
    have : ((List.range n).map fun i => Value.int .i64 (f i))[j]? = some (.int .i64 (f j)) := by simp [hj]
    rw [← ht, List.getElem?_take] at this
    rw [if_pos (by omega)] at this
    simpa using this

/-- The three numbers of a row. -/
def rowF (a b c : Nat → Int) (j i : Nat) : Int := if i = 0 then a j else if i = 1 then b j else c j
theorem EdgesIn.rows {w : World} {A : Option Addr} {n : Nat} {a b c : Nat → Int} (h : EdgesIn w A n a b c) : X.RowsIn w A n (rowF a b c) := by
  refine ⟨fun h0 => ?_, fun j i hj hi => ?_, h.len⟩
  · obtain ⟨g, off, hA, hg, hc⟩ := h.row h0
    refine ⟨g, off, hA, hg, fun j i hj hi => ?_⟩
    obtain ⟨c0, c1, c2⟩ := hc j hj
    have h3 : i = 0 ∨ i = 1 ∨ i = 2 := by omega
    rcases h3 with rfl | rfl | rfl
    · exact c0
    · exact c1
    · exact c2
  · obtain ⟨c0, c1, c2⟩ := h.wf j hj
    have h3 : i = 0 ∨ i = 1 ∨ i = 2 := by omega
    rcases h3 with rfl | rfl | rfl
    · exact c0
    · exact c1
    · exact c2
section
open Go.Fl
variable {m t q : Nat} (hm : 1 ≤ m) (hm2 : m ≤ 59) (hq : q ≤ 1024)
/-- The counts per vertex, and the sizes. -/
def pCount (m t : Nat) : Nat → Nat := X.quant (rowF (rA (m + 1) id pathQ (turnO m t) one) (rB (m + 1) id pathQ (turnO m t)) (rC (m + 1) id pathQ (turnO m t) one)) ((m : Int) + 1) 1
def pSize (m t : Nat) : Nat → Nat := X.quant (rowF (rA (m + 1) id pathQ (turnO m t) one) (rB (m + 1) id pathQ (turnO m t)) (rC (m + 1) id pathQ (turnO m t) one)) ((m : Int) + 1) 0
include hm
theorem pCount_eq {j : Nat} (hj : j ≤ m) : pCount m t j = fdiv (ofI ((m + 1 - j : Nat) : Int)) (ofI ((m + 1 : Nat) : Int)) := by
  have h1 : rowF (rA (m + 1) id pathQ (turnO m t) one) (rB (m + 1) id pathQ (turnO m t)) (rC (m + 1) id pathQ (turnO m t) one) j 1 = ((m + 1 - j : Nat) : Int) := by
    show rB (m + 1) id pathQ (turnO m t) j = _
    unfold rB
    rw [path_roots hm hj]
  unfold pCount X.quant
  rw [h1, show (m : Int) + 1 = ((m + 1 : Nat) : Int) by omega]
theorem pSize_eq {j : Nat} : ∃ s, (1 ≤ s ∧ s ≤ m + 1) ∧ pSize m t j = fdiv (ofI ((s : Nat) : Int)) (ofI ((m + 1 : Nat) : Int)) := by
  have h1 : rowF (rA (m + 1) id pathQ (turnO m t) one) (rB (m + 1) id pathQ (turnO m t)) (rC (m + 1) id pathQ (turnO m t) one) j 0 = rA (m + 1) id pathQ (turnO m t) one j := rfl
  have h2 := largest_one (n := m + 1) (by omega) (labK_labs (path_lt (t := t) (k := j) hm))
  have h3 := largest_n (n := m + 1) (labK id pathQ (turnO m t) j)
  refine ⟨(rA (m + 1) id pathQ (turnO m t) one j).toNat, ⟨?_, ?_⟩, ?_⟩
  · show 1 ≤ (largest (m + 1) (labK id pathQ (turnO m t) j) (fun _ => 1)).toNat
    omega
  · show (largest (m + 1) (labK id pathQ (turnO m t) j) (fun _ => 1)).toNat ≤ m + 1
    omega
  · unfold pSize X.quant
    rw [h1, show (m : Int) + 1 = ((m + 1 : Nat) : Int) by omega, Int.toNat_of_nonneg (by show 0 ≤ largest (m + 1) (labK id pathQ (turnO m t) j) (fun _ => 1); omega)]
include hm2
theorem pCount_in : ∀ j, j < m + 1 → isFin (pCount m t j) ∧ 0 ≤ fv (pCount m t j) ∧ fv (pCount m t j) ≤ 1 := fun j hj => by
  rw [pCount_eq hm (show j ≤ m by omega)]
  obtain ⟨_, a, _, _, b, c⟩ := part_ok (a := m + 1 - j) (v := m + 1) (by omega) (by omega) (by omega)
  exact ⟨a, b, c⟩
theorem pSize_in : ∀ j, j < m + 1 → isFin (pSize m t j) ∧ 0 ≤ fv (pSize m t j) ∧ fv (pSize m t j) ≤ 1 := fun j hj => by
  obtain ⟨s, h1, e⟩ := pSize_eq (t := t) (j := j) hm
  rw [e]
  obtain ⟨_, a, _, _, b, c⟩ := part_ok (a := s) (v := m + 1) (by omega) (by omega) h1.2
  exact ⟨a, b, c⟩
include hq
/-- What is wanted of the counts. -/
theorem pCount_near : floatBits .sub .f64 (X.avg (pCount m t) m (ch q)) (fsub Go.Fl.one (fdiv (fmul (ch q) (ofI (m : Nat))) (ofI ((m + 1 : Nat) : Int)))) = some (fsub (X.avg (pCount m t) m (ch q)) (fsub Go.Fl.one (fdiv (fmul (ch q) (ofI (m : Nat))) (ofI ((m + 1 : Nat) : Int))))) ∧
    floatBits .mul .f64 tinyW Go.Fl.one = some (fmul tinyW Go.Fl.one) ∧ nearB (X.avg (pCount m t) m (ch q)) (fsub Go.Fl.one (fdiv (fmul (ch q) (ofI (m : Nat))) (ofI ((m + 1 : Nat) : Int)))) Go.Fl.one = true := (counts_near hm hm2 hq (X.ok_ch (m := m) (by omega) hq) (t := X.term (pCount m t) m (ch q)) (f := pCount m t) (fun j hj => pCount_eq hm hj) (fun j hj => if_pos hj)).2
theorem pSize_near : floatBits .quo .f64 Go.Fl.one (floatOfInt .f64 ((m + 1 : Nat) : Int)) = some (fdiv Go.Fl.one (ofI ((m + 1 : Nat) : Int))) ∧
    floatBits .sub .f64 (fdiv Go.Fl.one (ofI ((m + 1 : Nat) : Int))) tinyW = some (fsub (fdiv Go.Fl.one (ofI ((m + 1 : Nat) : Int))) tinyW) ∧
    fge (X.avg (pSize m t) m (ch q)) (fsub (fdiv Go.Fl.one (ofI ((m + 1 : Nat) : Int))) tinyW) = true ∧ fle (X.avg (pSize m t) m (ch q)) topW = true := sizes_near hm hm2 hq (X.ok_ch (m := m) (by omega) hq) (t := X.term (pSize m t) m (ch q)) (f := pSize m t) (s := fun j => (pSize_eq (t := t) (j := j) hm).choose) (fun j hj => (pSize_eq (t := t) (j := j) hm).choose_spec.1) (fun j hj => (pSize_eq (t := t) (j := j) hm).choose_spec.2) (fun j hj => if_pos hj)
end

set_option maxRecDepth 100000 in
set_option maxHeartbeats 8000000 in
theorem canonRows_walk (n p t : Nat) (hn : n ≤ 255) (hp : p ≤ 65535) (ht : t ≤ 65535) (w : World) :
    Calls Try.prog 13 #[.int .u8 n, .int .u16 p, .int .u16 t] w fun e w' => e = .returned (.bool true) ∧ Below w.heap.size w w' := by
  obtain ⟨i0, hi, hz0, hz1, hz2⟩ := info_parts infoInt
  obtain ⟨i1, gi, gz0, gz1, gz2⟩ := info_parts infoEdge
  obtain ⟨m, hm⟩ : ∃ m, n % 59 + 1 = m := ⟨_, rfl⟩
  have hm1 : 1 ≤ m := by omega
  have hm2 : m ≤ 59 := by omega
  have e0 : (2 : Int) + (n : Int) % 59 = (m : Int) + 1 := by omega
  go_enter Try.func13, Try.ntmps13
  go_wp2_with fail
  clear e0
  go_loopw [8, 9, 10] (fun vs vo i wr => ∃ k : Nat, k ≤ m ∧ i = .int .i64 k ∧ Hid (PSide w m t k vs vo wr)) (fun _ _ i _ => m - (intOf i).toNat)
  case atStart => exact ⟨0, Nat.zero_le _, rfl, Lib.hid ⟨World.ownsRow_nil _ _ _ _, World.ownsRow_nil _ _ _ _, Below.refl _ _⟩⟩
  case round =>
    obtain ⟨k, hk, rfl, HS⟩ := hrel
    by_cases hlt : k < m
    · have hrow := HS.out.edges
      have hsz := HS.out.bel.size
      have hm0 : ¬ m = 0 := by omega
      have hm00 : ¬ (m : Int) = 0 := by omega
      have e1 : ((k : Int) + (t : Int)).tmod (m : Int) = pO m t k := by
        rw [Int.tmod_eq_emod_of_nonneg (by omega)]
        unfold pO turnO
        rw [Int.natCast_emod, Int.natCast_add]
      have hb := (path_ordered (m := m) (t := t) hm1).1 k hlt
      obtain ⟨r, hr⟩ : ∃ r, pO m t k = r := ⟨_, rfl⟩
      rw [hr] at e1 hb
      have HR := Lib.hid hr
      clear hr
      go_wp2_with (first
        | (at_builtin; refine wpList_append_own _ rfl _ _ 67 rfl w.heap.size 70 i1 (.agg #[.int .i64 0, .int .i64 0, .int .i64 0]) 3 24 Try.underlying67 gi gz0 gz1 gz2 rfl (by decide) _ _ _ rfl (hrow.alloc _) ⟨wr.heap.size, 0, none⟩ 1 1 [.int .i64 k, .int .i64 ((k : Int) + 1), .int .i64 0] rfl rfl (cell_three_new _ _ _ _ _) (by simp [Value.oneCell']) (by unfold maxLen; omega) (by omega) (by simp; omega) ?_; intro v' w1 hown' hgrow _; have HN := Lib.hid (And.intro (show w1.ownsRow w.heap.size 70 3 v' (k + 1) (edgesL pU pV pX (k + 1)) by rw [edgesL_succ]; exact hown') (And.intro (owns_apart hrow hgrow HS.out.order (by decide)) (below_append HS.out.bel hrow hgrow))); clear hown' hgrow hrow)
        | (at_builtin; refine wpList_append_own _ rfl _ _ 68 rfl w.heap.size 3 i0 (.int .i64 0) 1 8 Try.underlying68 hi hz0 hz1 hz2 rfl (by decide) _ _ _ rfl (HN.out.2.1.alloc _) ⟨w1.heap.size, 0, none⟩ 1 1 [.int .i64 r] rfl rfl (cell_one_new _ _ _) (by simp [Value.oneCell']) (by unfold maxLen; omega) (by omega) (by have := HN.out.2.2.size; simp; omega) ?_; intro v2 w2 hown2 hgrow2 _; have HM := Lib.hid (show PSide w m t (k + 1) v' v2 w2 from ⟨owns_apart HN.out.2.1 hgrow2 HN.out.1 (by decide), by rw [pO_succ, HR.out]; exact hown2, below_append HN.out.2.2 HN.out.2.1 hgrow2⟩); clear hown2 hgrow2 HN))
      go_roundw
      case rel => exact ⟨k + 1, by omega, by go_num, HM⟩
      case measure => simp [intOf]; omega
    · obtain rfl : k = m := by omega
      obtain ⟨A, ca, rfl, hE⟩ := edges_own HS.out.edges (fun j hj => by unfold pU pV pX; exact ⟨wf_of (by omega) (by omega), wf_of (by omega) (by omega), wf_of (by omega) (by omega)⟩)
      obtain ⟨O, co, rfl, hO⟩ := ints_owned HS.out.order (fun j hj => by have := (path_ordered (m := k) (t := t) hm1).1 j hj; exact wf_of (by omega) (by omega))
      have HB := Lib.hid HS.out.bel
      have CR := Lib.hid (SRows_any ((k + 1 : Nat) : Int) A O k ca k co pU pV pX (pO k t) wr hE hO 0 (path_good k hm2) true ⟨fun _ => path_ordered hm1, fun _ => rfl⟩ (by omega))
      rw [show ((k + 1 : Nat) : Int) = (k : Int) + 1 by omega] at CR
      clear hE hO HS
      go_wp2_with fail
      refine CR.out.mono ?_
      rintro e w1 (⟨h0, _⟩ | ⟨_, h0, _⟩ | ⟨_, _, vo, rfl, hr⟩)
      · exact absurd rfl h0
      · cases h0
      rw [pU_nat, pV_nat, pO_nat, show ((k : Int) + 1).toNat = k + 1 by omega] at hr
      obtain ⟨A1, c1, rfl, hE1⟩ := trips_own hr.1 (fun j hj => row_wf (fun i hi => path_lt (t := t) hm1 (k := k) i (by omega)) (by rw [total_one]; omega) (by omega))
      have HRw := Lib.hid hE1
      have HB1 := Lib.hid (HB.out.trans (hr.2.toBelow.mono HB.out.size))
      have hq1 : p % 1025 ≤ 1024 := by omega
      obtain ⟨q, hq⟩ : ∃ q, p % 1025 = q := ⟨_, rfl⟩
      rw [hq] at hq1
      have CH := Lib.hid (fun W => X.chance_c p hp W)
      rw [hq] at CH
      have CV2 := Lib.hid (X.Values_2 A1 (k + 1) c1 ((k : Int) + 1) _ w1 hE1.rows (by omega) (by omega) (by omega) (by omega))
      clear hr hE1 hq CR
      go_wp2_with fail
      refine CV2.out.mono ?_
      rintro e w2 ⟨⟨G, c2, rfl, hG⟩, hb2⟩
      have HG := Lib.hid hG
      have CV1 := Lib.hid (X.Values_1 A1 (k + 1) c1 ((k : Int) + 1) _ w2 ((HRw.out.only (only_of_below' hb2)).rows) (by omega) (by omega) (by omega) (by omega))
      have HB2 := Lib.hid (HB1.out.trans (hb2.mono HB1.out.size))
      clear hG hb2 CV2 HRw
      go_wp2_with fail
      refine CV1.out.mono ?_
      rintro e w3 ⟨⟨G', c3, rfl, hG'⟩, hb3⟩
      have HG3 := Lib.hid (show X.ListIn w3 G (k + 1) (pCount k t) from ⟨X.RowF.below HG.out hb3, fun j hj => (pCount_in hm1 hm2 j hj).1.1, by unfold maxLen; omega⟩)
      have HG' := Lib.hid (show X.ListIn w3 G' (k + 1) (pSize k t) from ⟨hG', fun j hj => (pSize_in hm1 hm2 j hj).1.1, by unfold maxLen; omega⟩)
      have HB3 := Lib.hid (HB2.out.trans (hb3.mono HB2.out.size))
      clear hG' hb3 CV1 HG
      go_wp2_with fail
      refine (CH.out _).mono ?_
      rintro e w' ⟨rfl, rfl⟩
      have CA := Lib.hid (X.Average_ok G (k + 1) c2 (Go.Fl.ch q) _ w3 HG3.out (X.ch_lt hq1) (X.small_list (by omega) (by omega) (pCount_in hm1 hm2)) (Go.Fl.ch_prob hq1))
      rw [X.absb_ch hq1, Nat.add_sub_cancel] at CA
      go_wp2_with fail
      refine CA.out.mono ?_
      rintro e w4 ⟨rfl, hb4⟩
      have HG4 := Lib.hid (X.ListIn.below HG'.out hb4)
      have HB4 := Lib.hid (HB3.out.trans (hb4.mono HB3.out.size))
      clear hb4 CA HG3 HG'
      go_wp2_with fail
      refine (CH.out _).mono ?_
      rintro e w' ⟨rfl, rfl⟩
      have CA := Lib.hid (X.Average_ok G' (k + 1) c3 (Go.Fl.ch q) _ w4 HG4.out (X.ch_lt hq1) (X.small_list (by omega) (by omega) (pSize_in hm1 hm2)) (Go.Fl.ch_prob hq1))
      rw [X.absb_ch hq1, Nat.add_sub_cancel] at CA
      go_wp2_with fail
      refine CA.out.mono ?_
      rintro e w5 ⟨rfl, hb5⟩
      have HB5 := Lib.hid (HB4.out.trans (hb5.mono HB4.out.size))
      clear hb5 CA HG4
      obtain ⟨o1, o2, o3, _⟩ := Go.Fl.want_ok hm1 hm2 hq1 (X.ok_ch (m := k) (by omega) hq1)
      obtain ⟨n1, n2, n3⟩ := pCount_near (t := t) hm1 hm2 hq1
      obtain ⟨s1, s2, s3, s4⟩ := pSize_near (t := t) hm1 hm2 hq1
      generalize X.avg (pCount k t) k (Go.Fl.ch q) = a1 at n1 n3 ⊢
      generalize X.avg (pSize k t) k (Go.Fl.ch q) = a2 at s3 s4 ⊢
      generalize Go.Fl.fmul (Go.Fl.ch q) (Go.Fl.ofI (k : Nat)) = x1 at o1 o2 o3 n1 n3
      generalize Go.Fl.fdiv x1 (Go.Fl.ofI ((k + 1 : Nat) : Int)) = x2 at o2 o3 n1 n3
      generalize Go.Fl.fsub Go.Fl.one x2 = x3 at o3 n1 n3
      generalize Go.Fl.fdiv Go.Fl.one (Go.Fl.ofI ((k + 1 : Nat) : Int)) = y1 at s1 s2 s3
      generalize Go.Fl.fsub y1 Go.Fl.tinyW = y2 at s2 s3
      have CN := Lib.hid (fun W => X.near_c a1 x3 Go.Fl.one W n1 n2 n3)
      clear n1 n2 n3
      generalize Go.Fl.ch q = c at *
      rw [show ((k + 1 : Nat) : Int) = (k : Int) + 1 by omega] at o2 s1
      unfold Go.Fl.one at o3 s1
      unfold Go.Fl.tinyW at s2
      unfold Go.Fl.fge at s3
      unfold Go.Fl.fle Go.Fl.topW at s4
      have r1 := fun ty w => run_float_arith (P := Try.prog) w .mul ty .f64 _ _ _ o1
      have r2 := fun ty w => run_float_arith (P := Try.prog) w .quo ty .f64 _ _ _ o2
      have r3 := fun ty w => run_float_arith (P := Try.prog) w .sub ty .f64 _ _ _ o3
      have r4 := fun ty w => run_float_arith (P := Try.prog) w .quo ty .f64 _ _ _ s1
      have r5 := fun ty w => run_float_arith (P := Try.prog) w .sub ty .f64 _ _ _ s2
      clear o1 o2 o3 s1 s2
      go_wp2_with fail
      refine (CH.out _).mono ?_
      rintro e w' ⟨rfl, rfl⟩
      go_wp2_with fail
      refine (CN.out _).mono ?_
      rintro e w' ⟨rfl, rfl⟩
      go_wp2_with fail
      refine (X.works_any _).mono ?_
      rintro e w6 ⟨rfl, hb6⟩
      have HB6 := Lib.hid (HB5.out.trans (hb6.mono HB5.out.size))
      clear hb6
      go_wp2_with fail
      go_ret
      exact ⟨rfl, HB6.out⟩
theorem canonRows_walkI (n p t : Int) (w : World) (hn : 0 ≤ n ∧ n ≤ 255) (hp : 0 ≤ p ∧ p ≤ 65535) (ht : 0 ≤ t ∧ t ≤ 65535) :
    Calls Try.prog 13 #[.int .u8 n, .int .u16 p, .int .u16 t] w fun e w' => e = .returned (.bool true) ∧ Below w.heap.size w w' := by
  obtain ⟨n, rfl⟩ := Int.eq_ofNat_of_zero_le hn.1
  obtain ⟨p, rfl⟩ := Int.eq_ofNat_of_zero_le hp.1
  obtain ⟨t, rfl⟩ := Int.eq_ofNat_of_zero_le ht.1
  exact canonRows_walk n p t (by omega) (by omega) (by omega) w

end Go.Proofs.Ytbafacdknaopjaa
